/-
  What the chapter's laws share, part 3: plain facts, memory, and walks of functions. Its conditions: those that each theorem names.
-/
import Derived.Shelf.Unicode.DecodeLast
import Derived.Test.YtcjmfjccjhdgjaaGreatDoorShelf
import Derived.Shelf.Strings.BuilderF
import Derived.Test.YtcjmfjccjhdgjaaGreatDoorKP2
set_option linter.unusedSimpArgs false
set_option linter.unusedVariables false
namespace Go.Bd
open Go.RowKit
def frame0 : Array Value := #[.slice none 0 0, .slice none 0 0, .int .u8 0, .string ⟨#[]⟩, .int .i64 0]
def colFirst (B : Nat) (b : Nat) : Nat := if b < B then 5 else if b = B then 1 else if b = B + 1 then 2 else if b = B + 2 then 0 else 9
def firstW (w : World) (s : ByteArray) : World := ((w.alloc (.cells frame0 tF)).alloc (.map #[] 0)).alloc (.cells #[.string s, .slice (some ⟨w.heap.size, 0, none⟩) 1 1, .slice none 0 0, .map (some (w.heap.size + 1))] tP)
theorem psFirst (P : Program) (w : World) (s : ByteArray) : PSx P (firstW w s) w.heap.size (colFirst w.heap.size) (w.heap.size + 1 + 1) w.heap.size 1 1 s Pst.first 0 (.slice none 0 0) (w.heap.size + 1) frame0 [] := by
  have hz : (firstW w s).heap.size = w.heap.size + 3 := by simp [firstW]
  have hp : Holds (firstW w s) (w.heap.size + 1 + 1) tP #[.string s, .slice (some ⟨w.heap.size, 0, none⟩) 1 1, .slice none 0 0, .map (some (w.heap.size + 1))] := by
    have := Holds.new ((w.alloc (.cells frame0 tF)).alloc (.map #[] 0)) tP #[.string s, .slice (some ⟨w.heap.size, 0, none⟩) 1 1, .slice none 0 0, .map (some (w.heap.size + 1))]
    simpa [firstW] using this
  have ho : Holds (firstW w s) w.heap.size tF frame0 := ((Holds.new w tF frame0).alloc _).alloc _
  refine ⟨by omega, hp, by unfold colFirst; rw [if_neg (by omega), if_neg (by omega), if_neg (by omega), if_pos (by omega)], by omega, ho, by simp [colFirst], rfl, by omega, by simp [Pst.first], by unfold maxLen; omega, ?_, World.ownsRow_nil _ _ _ _, (fun b hb => by cases hb), by omega, ?_, by simp [colFirst]; try omega, (fun g hg => by cases hg), by simp, fun b hb => ?_, fun b hb => ?_⟩
  · intro k f hf
    have hk : k = 0 := by
      have := (List.getElem?_eq_some_iff.1 hf).1
      simp [Pst.first] at this
      omega
    subst hk
    simp only [Pst.first, List.reverse_singleton, List.getElem?_cons_zero, Option.some.injEq] at hf
    subst hf
    exact ⟨.slice none 0 0, .slice none 0 0, ⟨rfl, rfl, rfl, rfl, rfl, SpanRow.nil _ _ _ _, World.ownsRow_nil _ _ _ _, (fun b hb => by cases hb), (fun b hb => by cases hb)⟩⟩
  · have h1 := World.ownsMap_made (H := Unit) (w.alloc (.cells frame0 tF)) P 9 unitElem
    have h2 : (firstW w s).ownsMap (H := Unit) P 9 unitElem (w.heap.size + 1) 0 (.map []) := by
      have h3 := h1.kept (w' := firstW w s) (row := none) ⟨rfl, rfl, rfl, by simp [firstW], fun k hk _ => Below.heap_alloc _ _ k hk⟩ (by simp)
      simpa using h3
    exact h2
  · rw [hz] at hb
    unfold colFirst
    rw [if_neg (by omega), if_neg (by omega), if_neg (by omega), if_neg (by omega)]
  · unfold colFirst
    rw [if_pos hb]
def FaultRow (w : World) (B : Nat) (v : Value) (l : List Nat) : Prop := w.ownsRow B 36 1 v l.length (l.map fun (f : Nat) => Value.int .i64 (f : Int))
end Go.Bd
namespace Go.Proofs.YtcjmfjccjhdgjaaGreatDoor
open Go.RowKit Go.Bd
theorem fault_info : (Tryz.prog.info? 36).map (fun i => (i.zero, i.size, i.bytes)) = some (some (.int .i64 0), 1, 8) := by kernel_rfl
theorem make_frame (w : World) : (Instr.makeSlice 130 (.int .i64 1) (.int .i64 1)).run Tryz.prog w = .ok (.slice (some ⟨w.heap.size, 0, none⟩) 1 1) (w.alloc (.cells frame0 142)) := by
  obtain ⟨i0, hi, hz0, hz1, hz2⟩ := info_parts frame_info
  have h := run_make (P := Tryz.prog) w 130 142 i0 _ Tryz.underlying130 hi hz0 .i64 .i64 1 1 (by omega) (Int.le_refl _) (by rw [hz2]; decide) (by decide)
  rw [hz1] at h
  have e : madeCells (Value.agg #[.slice none 0 0, .slice none 0 0, .int .u8 0, .string ⟨#[]⟩, .int .i64 0]).cells (Int.toNat 1 * 5) = frame0 := by first | rfl | kernel_rfl | decide
  rw [e] at h
  exact h
theorem make_map (w : World) : (Instr.makeMap 131 none).run Tryz.prog w = .ok (.map (some w.heap.size)) (w.alloc (.map #[] 0)) := by first | rfl | kernel_rfl
set_option maxRecDepth 100000 in
set_option maxHeartbeats 4000000 in
theorem parseSpans_fresh (s : ByteArray) (w : World) (hs : s.size ≤ 100000) (m : Int) (hm : w.cell? ⟨0, 0, none⟩ = some (.int .i64 m)) :
    Calls Tryz.prog 56 #[.string s] w fun e w' => ∃ sv fv, e = .returned (.tuple #[sv, fv]) ∧ Below w.heap.size w w' ∧ Forest w' (fun b => w.heap.size ≤ b ∧ b < w'.heap.size) sv (spansOf s.data.toList) ∧ FaultRow w' w.heap.size fv (faultsOf s.data.toList) := by
  have hB : 0 < w.heap.size := World.block_lt_of_cell? w _ hm
  have mf := make_frame w
  have HF := Lib.hid (psFirst Tryz.prog w s)
  have HM := Lib.hid hm
  have hls : s.data.toList.length = s.size := by simp
  have HLS := Lib.hid hls
  clear hm hls
  go_enter Tryz.func56, Tryz.ntmps56
  go_wp2_with fail
  rw [make_map]
  clear mf
  simp only [Result.andThen]
  rw [Oper.upon_value]
  go_wp2
  go_loopg [5] (s.size) (fun q v wr => ∃ (i : Nat) (st : Pst) (col : Nat → Nat) (ob cap : Nat) (fv : Value) (cs : Array Value) (gn : List Bs), i + q = s.size ∧ v = .int .i64 (i : Int) ∧ Hid (Bd.Inv st i ∧ R s.data.toList i st = R s.data.toList 0 Pst.first ∧ PSx Tryz.prog wr w.heap.size col (w.heap.size + 1 + 1) ob cap st.fs.length s st i fv (w.heap.size + 1) cs gn ∧ Below w.heap.size w wr))
  case atStart =>
    refine ⟨0, Pst.first, _, _, _, _, _, _, by omega, rfl, Inv.first, rfl, HF.out, ?_⟩
    exact (((Below.refl _ _).alloc (Nat.le_refl _) _).alloc (by simp) _).alloc (by simp; omega) _
  case round =>
    clear HF
    obtain ⟨i, st, col, ob, cap, fv, cs, gn, hq, rfl, HR⟩ := hrel
    obtain ⟨hI, hRR, hP, hb⟩ := HR.out
    by_cases hlt : i < s.size
    · have cst := step_any hP rfl hI hlt hs m ((hb.cell (p := ⟨0, 0, none⟩) hB).trans HM.out) hB
      obtain ⟨h3, h4, h5⟩ := hI.step (s := s.data.toList) (by rw [HLS.out]; exact hlt)
      rw [HLS.out] at h5
      have hRS : R s.data.toList (st.step s.data.toList i).2 (st.step s.data.toList i).1 = R s.data.toList 0 Pst.first := by rw [← R_step hI (by rw [HLS.out]; exact hlt)]; exact hRR
      have HRS := Lib.hid hRS
      have HI3 := Lib.hid h3
      have HB := Lib.hid hb
      clear hI hRR hP hb HR h3 hRS
      generalize (st.step s.data.toList i).2 = j at cst h4 h5 HRS HI3
      generalize (st.step s.data.toList i).1 = st' at cst HRS HI3
      go_wp2_with (go_at_call 78; refine cst.mono ?_; clear cst; rintro e w' ⟨rfl, hpost⟩)
      have HPost := Lib.hid hpost
      clear hpost
      go_roundg (s.size - j)
      case measure => omega
      case rel =>
        obtain ⟨col', ob', cap', fv', cs', gn', h6, h7⟩ := HPost.out
        exact ⟨j, st', col', ob', cap', fv', cs', gn', by omega, rfl, HI3.out, HRS.out, h6, HB.out.trans h7.below⟩
    · obtain rfl : i = s.size := by omega
      have hst : st.drop 0 = endP s.data.toList := by
        rw [endP_eq, ← hRR, R_end (by rw [HLS.out]; exact Nat.le_refl _)]
      have hI1 := (hI.drop (n := 0) hI.2.2.1).1
      have cd := drop_any hP rfl 0 hI.2.2.1 s.size hI hs
      rw [hst] at cd hI1
      have hfa : (endP s.data.toList).faults = faultsAt s.data.toList := rfl
      have hnd := faults_nodup s.data.toList
      have HSO : Hid (spansOf s.data.toList = match (endP s.data.toList).fs with | f :: _ => f.row.flush.sp | [] => []) := rfl
      have HFO : Hid (faultsOf s.data.toList = (sortF (endP s.data.toList).faults).map (·.2)) := rfl
      rw [← hfa] at hnd
      obtain ⟨f, hfs⟩ := endP_one s.data.toList
      generalize endP s.data.toList = ed at cd hI1 hfs hnd HSO HFO
      have hwt : wtF f ≤ s.size := by
        have := hI1.1
        rw [hfs, wtFs_cons] at this
        omega
      have hsl : f.row.sp.length ≤ 100000 ∧ f.row.tx.length ≤ 100000 := by
        have := wtL_len f.row.sp
        unfold wtF wtR at hwt
        omega
      obtain ⟨hsl1, hsl2⟩ := hsl
      have hfl : ed.faults.length ≤ 100001 := by have := hI1.2.1; omega
      have HFS := Lib.hid hfs
      have HND := Lib.hid hnd
      have HB := Lib.hid hb
      clear hI hRR hP hb HR hst hI1 hfa hfs hwt hnd
      go_wp2_with fail
      refine cd.mono ?_
      clear cd
      rintro e w1 ⟨rfl, col1, fv1, cs1, h1, st1⟩
      have H1 := Lib.hid h1
      have HB1 := Lib.hid (HB.out.trans st1.below)
      clear h1 st1
      go_wp2_with fail
      refine (top_any (n := 0) H1.out (by omega)).mono ?_
      rintro e w2 ⟨rfl, kk, rfl⟩
      have cf := flushTop_any (PSx.drewN H1.out kk) HFS.out (by omega) (by omega)
      go_wp2_with fail
      refine cf.mono ?_
      clear cf
      rintro e w3 ⟨rfl, col3, cs3, h3, st3⟩
      have hfs3 : (ed.top (·.flush)).fs = [{ f with row := f.row.flush }] := by simp [Pst.top, onTop, HFS.out]
      have HFS3 := Lib.hid hfs3
      have hfa3 : (ed.top (·.flush)).faults = ed.faults := rfl
      have csr := sort_any h3.hf (by rw [hfa3]; exact HND.out) (by rw [hfa3]; omega)
      have hf3 := h3.hf
      rw [hfa3] at csr hf3
      have d2 := h3.hp.cell 2
      have H3 := Lib.hid h3
      have HB3 := Lib.hid (HB1.out.trans st3.undrew.below)
      clear h3 st3 hfs3 hfa3
      go_wp2_with fail
      refine csr.mono ?_
      clear csr
      rintro e w4 ⟨rfl, hch4, ho4⟩
      have hsl4 : (sortF ed.faults).length = ed.faults.length := (sortF_perm _).length_eq
      obtain ⟨col4, h4, st4⟩ := H3.out.faults (fa := sortF ed.faults) hch4 (fun b hb => .inr hb) (hch4.holds (fun e => by have h1 := H3.out.cf _ e; have h2 := H3.out.cp; omega) H3.out.hp) (by rw [hsl4]; exact ho4) (fun b hb => .inl hb)
      have e2 := h4.hp.cell 2
      have H4 := Lib.hid h4
      have HB4 := Lib.hid (HB3.out.trans st4.below)
      have HHP := Lib.hid h4.hp
      have hB4 : w.heap.size ≤ w4.heap.size := HB4.out.size
      clear h4 st4 hch4 d2 hf3
      have HSL := Lib.hid hsl4
      clear hsl4
      generalize hn : ed.faults.length = n at hfl ho4 HSL
      obtain ⟨A, c, rfl, hle⟩ := own_slice2 ho4
      have HC : Hid (∀ (j : Nat) (p : Nat × Nat), (sortF ed.faults)[j]? = some p → ∃ g, A = some ⟨g, 0, none⟩ ∧ g < w4.heap.size ∧ w4.cell? ⟨g, j * 2, none⟩ = some (.int .i64 (p.1 : Int)) ∧ w4.cell? ⟨g, j * 2 + 1, none⟩ = some (.int .i64 (p.2 : Int))) := fun j p hj => by
        have hjl : j < n := by have := (List.getElem?_eq_some_iff.1 hj).1; rw [HSL.out] at this; exact this
        have hpe : (sortF ed.faults)[j]! = p := by rw [List.getElem!_eq_getElem?_getD, hj]; rfl
        rcases ho4.2 with ⟨_, h0⟩ | ⟨g, cap', cur, hv, hg, hh, hc, hm, hs, ht⟩
        · omega
        · injection hv with h1 _ _
          have get : ∀ q, q < 2 → w4.cell? ⟨g, j * 2 + q, none⟩ = (encT p)[q]? := fun q hq => by
            have := toldCells_get (sortF ed.faults) (j * 2 + q) (by rw [HSL.out]; omega)
            rw [← ht, List.getElem?_take_of_lt (by omega), Array.getElem?_toList, show (j * 2 + q) / 2 = j by omega, show (j * 2 + q) % 2 = q by omega, hpe] at this
            exact (Holds.cell hh _).trans this
          exact ⟨g, h1, (Array.getElem?_eq_some_iff.1 hh).1, get 0 (by omega), get 1 (by omega)⟩
      have HLE := Lib.hid hle
      have HO4 := Lib.hid ho4
      have HN := Lib.hid hn
      clear ho4 hle hn
      go_wp2
      go_loopg [6, 38] n (fun q v idx wr => ∃ k : Nat, k + q = n ∧ idx = .int .i64 (k : Int) ∧ Hid (wr.ownsRow w4.heap.size 36 1 v k (((sortF ed.faults).map fun (p : Nat × Nat) => Value.int .i64 (p.2 : Int)).take k) ∧ Below w4.heap.size w4 wr))
      case atStart => exact ⟨0, by omega, rfl, World.ownsRow_nil _ _ _ _, Below.refl _ _⟩
      case round =>
        obtain ⟨k, hk, rfl, HR⟩ := hrel
        obtain ⟨hown, hbl⟩ := HR.out
        have hsz := hbl.size
        by_cases hlt : k < n
        · obtain ⟨p, hp⟩ : ∃ p, (sortF ed.faults)[k]? = some p := ⟨_, List.getElem?_eq_getElem (by rw [HSL.out]; exact hlt)⟩
          obtain ⟨g, rfl, hg, p1, p2⟩ := HC.out k p hp
          replace p1 := (hbl.cell (p := ⟨g, k * 2, none⟩) hg).trans p1
          replace p2 := (hbl.cell (p := ⟨g, k * 2 + 1, none⟩) hg).trans p2
          have HT := Lib.hid (show ((sortF ed.faults).map (fun (p : Nat × Nat) => Value.int .i64 (p.2 : Int))).take (k + 1) = ((sortF ed.faults).map (fun (p : Nat × Nat) => Value.int .i64 (p.2 : Int))).take k ++ [.int .i64 (p.2 : Int)] by
            rw [List.take_add_one, List.getElem?_map, hp]; rfl)
          have HBL := Lib.hid hbl
          clear HR hp hbl
          have hN := Holds.new (wr.alloc (.cells #[.int .i64 (p.1 : Int), .int .i64 (p.2 : Int)] 145)) 36 #[.int .i64 (p.2 : Int)]
          rw [show (wr.alloc (.cells #[.int .i64 (p.1 : Int), .int .i64 (p.2 : Int)] 145)).heap.size = wr.heap.size + 1 by simp] at hN
          have HNW := Lib.hid hN
          clear hN
          go_wp2_with (at_builtin; refine wpList_app_el _ rfl _ _ 105 rfl w4.heap.size 36 (.int .i64 0) 1 8 Tryz.underlying105 fault_info rfl (by omega) _ k _ rfl ((hown.alloc _).alloc _) _ 1 [.int .i64 (p.2 : Int)] rfl rfl HNW.out (by simp [Value.oneCell']) (by omega) (by omega) (by simp; omega) ?_)
          intro v1 w5 ho5 hg5 hn5
          have hb5 : Below w4.heap.size w4 w5 := ((HBL.out.alloc hsz (.cells #[.int .i64 (p.1 : Int), .int .i64 (p.2 : Int)] 145)).alloc (by simp; omega) (.cells #[.int .i64 (p.2 : Int)] 36)).trans ((Chg.grown hg5).toBelow (by simp; omega) (fun b hb => (hown.lt b hb.symm).1))
          rw [← HT.out] at ho5
          have HR5 := Lib.hid (And.intro ho5 hb5)
          clear hown hg5 hn5 ho5 hb5
          go_wp2
          go_roundg (gk - 1)
          case measure => omega
          case rel => exact ⟨k + 1, by omega, by go_num, HR5.out⟩
        · obtain rfl : k = n := by omega
          have h5 := H4.out.keep (Chg.below hbl (fun _ => False)) (fun _ h => h.elim)
          obtain ⟨sv, tv, hfr⟩ := h5.fr 0 { f with row := f.row.flush } (by rw [HFS3.out]; rfl)
          obtain ⟨q0, _, _, _, _⟩ := frame_cells hfr h5.ho
          have q0' : wr.cell? ⟨ob, 0, none⟩ = some sv := by simpa using q0
          have HFR : Hid (Forest wr (fun b => w.heap.size ≤ b ∧ b < wr.heap.size) sv f.row.flush.sp) := hfr.sp.forest (fun b hb => ⟨h5.ge4 hb, h5.lt4 hb⟩) (fun b hb => hfr.sp.lt b hb)
          have H5 := Lib.hid h5
          have HBW := Lib.hid (HB4.out.trans (hbl.mono hB4))
          clear h5 hfr q0 HR hbl
          go_wp2_with fail
          refine (top_any (n := 0) H5.out (by omega)).mono ?_
          rintro e w6 ⟨rfl, kk6, rfl⟩
          go_wp2
          go_ret2
          have hso : spansOf s.data.toList = f.row.flush.sp := by rw [HSO.out, HFS.out]
          have hfo : faultsOf s.data.toList = (sortF ed.faults).map (·.2) := HFO.out
          refine ⟨sv, _, rfl, ?_, ?_, ?_⟩
          · exact ⟨HBW.out.os, HBW.out.tape, HBW.out.output, HBW.out.size, HBW.out.block⟩
          · rw [hso]; exact HFR.out.keep (fun _ h => h) (fun _ _ _ h => h)
          · unfold FaultRow
            rw [hfo, List.length_map, HSL.out, List.map_map]
            rw [List.take_of_length_le (by rw [List.length_map, HSL.out]; exact Nat.le_refl _)] at hown
            exact ⟨hown.1, hown.2.imp id (fun ⟨g, cap, cur, a, b, r⟩ => ⟨g, cap, cur, a, by omega, r⟩)⟩
end Go.Proofs.YtcjmfjccjhdgjaaGreatDoor
namespace Go.Bd
open Go.RowKit
def spareB : Bs := [115, 112, 97, 114, 101]
def markCells : List Value := [.int .u8 0, strV spareB, strV [], strV [], .slice none 0 0]
inductive Marked (w : World) (F : Nat → Prop) : Value → List Sp → Prop
  | mk (g c : Nat) (l : List Sp) (kvs : List Value) (hlen : kvs.length = l.length) (hc : l.length < c) (hF : F g)
      (hA : ∀ (j : Nat) x kv, l[j]? = some x → kvs[j]? = some kv → ∀ (i : Nat) u, (spCells x kv)[i]? = some u → w.cell? ⟨g, j * 5 + i, none⟩ = some u)
      (hS : ∀ (i : Nat) u, markCells[i]? = some u → w.cell? ⟨g, l.length * 5 + i, none⟩ = some u)
      (hk : ∀ (j : Nat) x kv, l[j]? = some x → kvs[j]? = some kv → Marked w F kv x.kids) : Marked w F (.slice (some ⟨g, 0, none⟩) l.length c) l
section
variable {w w' : World} {F G : Nat → Prop} {v : Value} {l : List Sp}
theorem Marked.keep (h : Marked w F v l) (hk : ∀ b, F b → G b) (hc : ∀ (p : Addr) u, F p.block → w.cell? p = some u → w'.cell? p = some u) : Marked w' G v l := by
  induction h with
  | mk g c l kvs hlen hcap hF hA hS _ ih =>
    exact .mk g c l kvs hlen hcap (hk g hF) (fun j x kv e1 e2 i u e3 => hc ⟨g, j * 5 + i, none⟩ u hF (hA j x kv e1 e2 i u e3)) (fun i u e => hc ⟨g, l.length * 5 + i, none⟩ u hF (hS i u e)) (fun j x kv e1 e2 => ih j x kv e1 e2)
theorem Marked.chg {S : Nat → Prop} (h : Marked w F v l) (hc : Chg w w' S) (hk : ∀ b, F b → G b) (hS : ∀ b, F b → ¬ S b) : Marked w' G v l :=
  h.keep hk fun _ _ hF hu => hc.cell (hS _ hF) hu
theorem Marked.under {B : Nat} (h : Marked w F v l) (hb : Below B w w') (hF : ∀ b, F b → b < B) : Marked w' F v l :=
  h.keep (fun _ h => h) fun p u hp hu => (hb.cell (hF _ hp)).trans hu
theorem Marked.forest (h : Marked w F v l) : Forest w F v l := by
  induction h with
  | mk g c l kvs hlen hcap hF hA hS _ ih =>
    exact .mk (some ⟨g, 0, none⟩) c l kvs hlen (Nat.le_of_lt hcap) (fun _ => ⟨g, 0, rfl, hF, fun j x kv e1 e2 i u e3 => by rw [Nat.zero_add]; exact hA j x kv e1 e2 i u e3⟩) (fun j x kv e1 e2 => ih j x kv e1 e2)
theorem Marked.form (h : Marked w F v l) : ∃ g c, v = .slice (some ⟨g, 0, none⟩) l.length c ∧ l.length < c ∧ F g ∧
    (∀ (i : Nat) u, markCells[i]? = some u → w.cell? ⟨g, l.length * 5 + i, none⟩ = some u) ∧
    ∀ (j : Nat) x, l[j]? = some x → ∃ kv, Marked w F kv x.kids ∧
      w.cell? ⟨g, j * 5, none⟩ = some (.int .u8 (x.kind : Int)) ∧ w.cell? ⟨g, j * 5 + 1, none⟩ = some (strV x.text) ∧ w.cell? ⟨g, j * 5 + 2, none⟩ = some (strV x.sub) ∧ w.cell? ⟨g, j * 5 + 3, none⟩ = some (strV x.see) ∧ w.cell? ⟨g, j * 5 + 4, none⟩ = some kv := by
  cases h with
  | mk g c l kvs hlen hcap hF hA hS hk =>
    refine ⟨g, c, rfl, hcap, hF, hS, fun j x hx => ?_⟩
    have hj : j < l.length := (List.getElem?_eq_some_iff.1 hx).1
    obtain ⟨kv, hkv⟩ : ∃ kv, kvs[j]? = some kv := ⟨_, List.getElem?_eq_getElem (by omega)⟩
    exact ⟨kv, hk j x kv hx hkv, hA j x kv hx hkv 0 _ rfl, hA j x kv hx hkv 1 _ rfl, hA j x kv hx hkv 2 _ rfl, hA j x kv hx hkv 3 _ rfl, hA j x kv hx hkv 4 _ rfl⟩
end
end Go.Bd
namespace Go.Bd
mutual
def sz1 : Sp → Nat
  | ⟨_, t, u, v, kids⟩ => 1 + t.length + u.length + v.length + szL kids
def szL : List Sp → Nat
  | [] => 0
  | x :: l => 1 + sz1 x + szL l
end
mutual
def dp1 : Sp → Nat
  | ⟨_, _, _, _, kids⟩ => 1 + dpL kids
def dpL : List Sp → Nat
  | [] => 0
  | x :: l => max (dp1 x) (dpL l)
end
mutual
theorem dp_sz1 : ∀ x : Sp, dp1 x ≤ sz1 x
  | ⟨_, _, _, _, kids⟩ => by have := dp_szL kids; simp only [dp1, sz1]; omega
theorem dp_szL : ∀ l : List Sp, dpL l ≤ szL l
  | [] => Nat.le_refl _
  | x :: l => by have := dp_sz1 x; have := dp_szL l; simp only [dpL, szL]; omega
end
end Go.Bd
namespace Go.Bd
open Go.RowKit
section
variable {α : Type}
abbrev Rel (α : Type) := World → (Nat → Prop) → Value → α → Prop
def Rel.Stays (R : Rel α) : Prop := ∀ (w w' : World) (F G S : Nat → Prop) (v : Value) (x : α), R w F v x → Chg w w' S → (∀ b, F b → G b) → (∀ b, F b → ¬ S b) → R w' G v x
theorem Rel.Stays.go {R : Rel α} (hR : R.Stays) {w w' : World} {F G S : Nat → Prop} {v : Value} {x : α} (h : R w F v x) (hc : Chg w w' S) (hk : ∀ b, F b → G b) (hS : ∀ b, F b → ¬ S b) : R w' G v x := hR w w' F G S v x h hc hk hS
theorem Rel.Stays.under {R : Rel α} (hR : R.Stays) {w w' : World} {F : Nat → Prop} {B : Nat} {v : Value} {x : α} (h : R w F v x) (hb : Below B w w') (hF : ∀ b, F b → b < B) : R w' F v x :=
  hR.go h (S := fun k => B ≤ k) ⟨hb.os, hb.tape, hb.output, hb.size, fun k _ hs => hb.block k (Nat.lt_of_not_le hs)⟩ (fun _ h => h) (fun b h hs => by have := hF b h; omega)
def RowF (R : Rel α) (w : World) (F : Nat → Prop) (v : Value) (l : List α) : Prop :=
  ∃ (A : Option Addr) (c : Nat) (kvs : List Value), v = .slice A l.length c ∧ l.length ≤ c ∧ kvs.length = l.length ∧ (l ≠ [] → ∃ b off, A = some ⟨b, off, none⟩ ∧ F b ∧ ∀ (j : Nat) kv, kvs[j]? = some kv → w.cell? ⟨b, off + j, none⟩ = some kv) ∧
    ∀ (j : Nat) x kv, l[j]? = some x → kvs[j]? = some kv → R w F kv x
def RowM (M : Rel α) (Q : World → (Nat → Prop) → Value → Prop) (w : World) (F : Nat → Prop) (v : Value) (l : List α) : Prop :=
  ∃ (g c : Nat) (kvs : List Value) (mk : Value), v = .slice (some ⟨g, 0, none⟩) l.length c ∧ l.length < c ∧ F g ∧ kvs.length = l.length ∧ (∀ (j : Nat) kv, kvs[j]? = some kv → w.cell? ⟨g, j, none⟩ = some kv) ∧ w.cell? ⟨g, l.length, none⟩ = some mk ∧ Q w F mk ∧
    ∀ (j : Nat) x kv, l[j]? = some x → kvs[j]? = some kv → M w F kv x
theorem RowF.stays {R : Rel α} (hR : R.Stays) : Rel.Stays (RowF R) := by
  rintro w w' F G S v l ⟨A, c, kvs, e, hc, hl, hA, hk⟩ hch hFG hFS
  refine ⟨A, c, kvs, e, hc, hl, fun hn => ?_, fun j x kv e1 e2 => hR.go (hk j x kv e1 e2) hch hFG hFS⟩
  obtain ⟨b, off, h1, h2, h3⟩ := hA hn
  exact ⟨b, off, h1, hFG b h2, fun j kv e => hch.cell (hFS b h2) (h3 j kv e)⟩
theorem RowM.stays {M : Rel α} {Q : World → (Nat → Prop) → Value → Prop} (hM : M.Stays) (hQ : ∀ {w w' : World} {F G S : Nat → Prop} {v : Value}, Q w F v → Chg w w' S → (∀ b, F b → G b) → (∀ b, F b → ¬ S b) → Q w' G v) : Rel.Stays (RowM M Q) := by
  rintro w w' F G S v l ⟨g, c, kvs, mk, e, hc, hF, hl, hA, hm, hq, hk⟩ hch hFG hFS
  exact ⟨g, c, kvs, mk, e, hc, hFG g hF, hl, fun j kv e => hch.cell (hFS g hF) (hA j kv e), hch.cell (hFS g hF) hm, hQ hq hch hFG hFS, fun j x kv e1 e2 => hM.go (hk j x kv e1 e2) hch hFG hFS⟩
theorem RowF.len {R : Rel α} {w : World} {F : Nat → Prop} {v : Value} {l : List α} (h : RowF R w F v l) : ∃ A c, v = .slice A l.length c ∧ l.length ≤ c := by
  obtain ⟨A, c, kvs, e, hc, _⟩ := h
  exact ⟨A, c, e, hc⟩
theorem RowF.at {R : Rel α} {w : World} {F : Nat → Prop} {A : Option Addr} {n c : Nat} {l : List α} (h : RowF R w F (.slice A n c) l) {j : Nat} {x : α} (hx : l[j]? = some x) : ∃ b off kv, A = some ⟨b, off, none⟩ ∧ F b ∧ R w F kv x ∧ w.cell? ⟨b, off + j, none⟩ = some kv := by
  obtain ⟨A', c', kvs, e, hc, hl, hA, hk⟩ := h
  injection e with e1 e2 e3
  subst e1
  have hj : j < l.length := (List.getElem?_eq_some_iff.1 hx).1
  obtain ⟨b, off, h1, h2, h3⟩ := hA (by intro h; rw [h] at hj; simp at hj)
  obtain ⟨kv, hkv⟩ : ∃ kv, kvs[j]? = some kv := ⟨_, List.getElem?_eq_getElem (by omega)⟩
  exact ⟨b, off, kv, h1, h2, hk j x kv hx hkv, h3 j kv hkv⟩
theorem RowM.form {M : Rel α} {Q : World → (Nat → Prop) → Value → Prop} {w : World} {F : Nat → Prop} {v : Value} {l : List α} (h : RowM M Q w F v l) : ∃ g c mk, v = .slice (some ⟨g, 0, none⟩) l.length c ∧ l.length < c ∧ F g ∧ w.cell? ⟨g, l.length, none⟩ = some mk ∧ Q w F mk ∧
    ∀ (j : Nat) x, l[j]? = some x → ∃ kv, M w F kv x ∧ w.cell? ⟨g, j, none⟩ = some kv := by
  obtain ⟨g, c, kvs, mk, e, hc, hF, hl, hA, hm, hq, hk⟩ := h
  refine ⟨g, c, mk, e, hc, hF, hm, hq, fun j x hx => ?_⟩
  have hj : j < l.length := (List.getElem?_eq_some_iff.1 hx).1
  obtain ⟨kv, hkv⟩ : ∃ kv, kvs[j]? = some kv := ⟨_, List.getElem?_eq_getElem (by omega)⟩
  exact ⟨kv, hk j x kv hx hkv, hA j kv hkv⟩
structure Tw1 (M : Rel α) (t : TypeId) (w wr : World) (g cap k : Nat) (kvs : List Value) (l : List α) : Prop where
  hl : kvs.length = k
  ho : wr.ownsRow w.heap.size t 1 (.slice (some ⟨g, 0, none⟩) k cap) k kvs
  hk : ∀ (j : Nat) x kv, l[j]? = some x → kvs[j]? = some kv → M wr (fun b => w.heap.size ≤ b ∧ b < wr.heap.size ∧ b ≠ g) kv x
  hg : w.heap.size ≤ g ∧ g < wr.heap.size
  hb : Below w.heap.size w wr
def szX (s : α → Nat) : List α → Nat
  | [] => 0
  | x :: l => 2 + s x + szX s l
end
theorem Marked.stays : Rel.Stays (α := List Sp) Marked := fun _ _ _ _ _ _ _ h hc hk hS => h.chg hc hk hS
theorem Forest.stays : Rel.Stays (α := List Sp) Forest := fun _ _ _ _ _ _ _ h hc hk hS => h.chg hc hk hS
def CellsF : Rel (List (List Sp)) := RowF Forest
def RowsF : Rel (List (List (List Sp))) := RowF CellsF
def markC (w : World) (F : Nat → Prop) (v : Value) : Prop := Forest w F v [txt spareB]
def markR (_ : World) (_ : Nat → Prop) (v : Value) : Prop := ∃ A c, v = .slice A 9 c
def CellsM : Rel (List (List Sp)) := RowM Marked markC
def RowsM : Rel (List (List (List Sp))) := RowM CellsM markR
theorem CellsF.stays : Rel.Stays CellsF := RowF.stays (R := Forest) Forest.stays
theorem RowsF.stays : Rel.Stays RowsF := RowF.stays (R := CellsF) CellsF.stays
theorem CellsM.stays : Rel.Stays CellsM := RowM.stays (M := Marked) Marked.stays (fun {_ _ _ _ _ _} h hc hk hS => Forest.chg h hc hk hS)
theorem RowsM.stays : Rel.Stays RowsM := RowM.stays (M := CellsM) CellsM.stays (fun {_ _ _ _ _ _} h _ _ _ => h)
end Go.Bd
namespace Go.Proofs.YtcjmfjccjhdgjaaGreatDoor
open Go.RowKit Go.Bd
theorem blank_fun : (fun c => ([32, 9] : Bs).contains c) = Go.Bd.blank := by
  funext c
  rw [Bool.eq_iff_iff, blank_iff]
  simp only [List.contains_eq_mem, List.mem_cons, List.not_mem_nil, or_false, decide_eq_true_eq, ← UInt8.toNat_inj]
  simp; omega
theorem strTrimL_any (s : ByteArray) (w : World) (hs : s.size ≤ 9223372036854775807) :
    Calls Tryz.prog 37 #[.string s, .string ⟨#[32, 9]⟩] w fun e w' => e = .returned (strV (dropL s.data.toList)) ∧ Below w.heap.size w w' := by
  refine (Any.strings_TrimLeft_laid Tryz.lays161 set_info s ⟨#[32, 9]⟩ w (by decide) (ascii_of_all (by decide))).mono ?_
  rintro e w' ⟨he, hb⟩
  refine ⟨?_, hb⟩
  rw [he]
  exact congrArg (fun l : Bs => Ending.returned (strV l)) (by rw [Lib.trimLeftS, dropL]; show List.dropWhile (fun c => ([32, 9] : Bs).contains c) _ = _; rw [blank_fun])
theorem strTrimR_any (s : ByteArray) (w : World) (hs : s.size ≤ 9223372036854775807) :
    Calls Tryz.prog 55 #[.string s, .string ⟨#[32, 9]⟩] w fun e w' => e = .returned (strV (dropR s.data.toList)) ∧ Below w.heap.size w w' := by
  refine (Any.strings_TrimRight_laid Tryz.lays162 set_info s ⟨#[32, 9]⟩ w hs (by decide) (ascii_of_all (by decide))).mono ?_
  rintro e w' ⟨he, hb⟩
  refine ⟨?_, hb⟩
  rw [he]
  exact congrArg (fun l : Bs => Ending.returned (strV l)) (by rw [Lib.trimRightS, dropR]; show (List.dropWhile (fun c => ([32, 9] : Bs).contains c) _).reverse = _; rw [blank_fun])
end Go.Proofs.YtcjmfjccjhdgjaaGreatDoor
namespace Go.Proofs.YtcjmfjccjhdgjaaGreatDoor
open Go.RowKit Go.Bd
set_option maxRecDepth 100000 in
set_option maxHeartbeats 400000 in
theorem indexRune_valid2 (g : ByteArray) (r : Int) (w : World) (hg : ∀ b ∈ g.data.toList, b.toNat < 128) (h4 : (Utf8.encode r).size ≤ g.size) (h5 : g.size ≤ 200) (h1 : 128 ≤ r) (h2 : ¬ r = 65533) (hv : Utf8.valid r = true) :
    Calls Tryz.prog 57 #[.string g, .int .i32 r] w fun e w' => e = .returned (.int .i64 (-1)) ∧ Below w.heap.size w w' := by
  have HG := Lib.hid hg
  clear hg
  obtain ⟨f1, f2, f3⟩ := encode_facts r hv h1
  have hv' : validRune r = true := by rw [← validRune_eq]; exact hv
  have Hv := Lib.hid hv
  clear hv
  have hne : (r == 65533) = false := by simpa using h2
  generalize he : Utf8.encode r = e at f1 f2 f3 h4
  have hce := fun (w : World) => run_convert_int_string (P := Tryz.prog) w 21 9 .i32 r (by rw [Tryz.underlying21]; rfl) Tryz.underlying9
  rw [he] at hce
  have He := Lib.hid he
  clear he
  obtain ⟨n, hn⟩ : ∃ n, e.size = n + 1 := ⟨e.size - 1, by omega⟩
  have hng : n < g.size := by omega
  have hne' : n < e.size := by omega
  have f4 : 128 ≤ (e[n]'hne').toNat := by
    have h := f3 (by omega)
    have e1 : e.size - 1 = n := by omega
    simpa only [e1] using h
  clear f3
  have hx := ascii_at HG.out hng
  have hneq : ((g[n]'hng).toNat : Int) ≠ (e[n]'hne').toNat := by omega
  have hb : (((g[n]'hng).toNat : Int) != (e[n]'hne').toNat) = true := by simpa using hneq
  have hb' : (((g[n]'hng).toNat : Int) == (e[n]'hne').toNat) = false := by simpa using hneq
  clear hneq
  go_enter Tryz.func57, Tryz.ntmps57
  go_wp2_with (go_at_call 86; refine (Tryz.utf8_ValidRune _ _).mono ?_; rintro e w' ⟨rfl, hw⟩; subst hw)
  · go_ret
    exact ⟨rfl, Below.refl _ _⟩
  · go_step3
    go_wp2
    refine wp_loop_rounds 1 ?_
    rw [rounds_succ]
    go_wp2
    go_step3
    go_wp2
    have Hn := Lib.hid hn
    clear hn
    go_quiet (fail)
    go_wp2
    have hbq : Below w'.heap.size w' (w'.drewN nq) := Go.below_drewN (Below.refl _ _) _
    generalize w'.drewN nq = w2 at hbq ⊢
    have q1 : IntKind.i64.wrap ((n : Int) + 1) = (n : Int) + 1 := IntWalk.i64_in _ (by omega)
    have q2 : 0 ≤ (n : Int) + 1 := by omega
    have q3 : ((n : Int) + 1).toNat = n + 1 := by omega
    have q4 : (n : Int) + 1 ≤ (g.size : Int) := by omega
    have e41 : Lib.indexByte (List.take (g.size - (n + 1)) (List.drop (n + 1) g.data.toList)) (e[n]'hne') < 0 := by
      rw [indexByte_high _ (fun b hb => HG.out b (List.mem_of_mem_drop (List.mem_of_mem_take hb))) _ f4]; decide
    go_quiet ((go_at_call 85; exact Calls.quiet_of_same (Tryz.strings_IndexByte _ _ _)))
    clear q1 q2 q3 q4
    go_wp2
    rw [Exit.noGoto_ret]
    simp only [Exit.inBlock, Exit.then]
    rw [Exit.noGoto_ret]
    simp only [Exit.inBlock]
    go_ret
    exact ⟨rfl, Go.below_drewN hbq _⟩
set_option maxRecDepth 100000 in
set_option maxHeartbeats 400000 in
theorem indexRune_valid3 (g : ByteArray) (r : Int) (w : World) (h4 : g.size < (Utf8.encode r).size) (h3 : 2 ≤ g.size) (h1 : 128 ≤ r) (h2 : ¬ r = 65533) (hv : Utf8.valid r = true) :
    Calls Tryz.prog 57 #[.string g, .int .i32 r] w fun e w' => e = .returned (.int .i64 (-1)) ∧ Below w.heap.size w w' := by
  obtain ⟨f1, f2, f3⟩ := encode_facts r hv h1
  clear f3
  have hv' : validRune r = true := by rw [← validRune_eq]; exact hv
  have Hv := Lib.hid hv
  clear hv
  have hne : (r == 65533) = false := by simpa using h2
  generalize he : Utf8.encode r = e at f1 f2 h4
  have hce := fun (w : World) => run_convert_int_string (P := Tryz.prog) w 21 9 .i32 r (by rw [Tryz.underlying21]; rfl) Tryz.underlying9
  rw [he] at hce
  clear he
  obtain ⟨n, hn⟩ : ∃ n, e.size = n + 1 := ⟨e.size - 1, by omega⟩
  have hng : ¬ n < g.size := by omega
  go_enter Tryz.func57, Tryz.ntmps57
  go_wp2_with (go_at_call 86; refine (Tryz.utf8_ValidRune _ _).mono ?_; rintro e w' ⟨rfl, hw⟩; subst hw)
  · go_ret
    exact ⟨rfl, Below.refl _ _⟩
  · go_step3
    go_wp2
    refine wp_loop_rounds 1 ?_
    rw [rounds_succ]
    go_wp2
    rw [Exit.noGoto_ret]
    simp only [Exit.inBlock, Exit.then]
    (try rw [Exit.noGoto_ret])
    (try simp only [Exit.inBlock])
    go_ret
    exact ⟨rfl, Below.refl _ _⟩
theorem indexRune_high2 (g : ByteArray) (r : Int) (w : World) (hg : ∀ b ∈ g.data.toList, b.toNat < 128) (h4 : 2 ≤ g.size) (h5 : g.size ≤ 200) (h1 : 128 ≤ r) :
    Calls Tryz.prog 57 #[.string g, .int .i32 r] w fun e w' => e = .returned (.int .i64 (-1)) ∧ Below w.heap.size w w' := by
  by_cases h2 : r = 65533
  · subst h2; exact indexRune_bad g w hg
  · by_cases hv : Utf8.valid r = true
    · rcases Nat.lt_or_ge g.size (Utf8.encode r).size with h | h
      · exact indexRune_valid3 g r w h h4 h1 h2 hv
      · exact indexRune_valid2 g r w hg h h5 h1 h2 hv
    · exact indexRune_none g r w h1 h2 (by rw [validRune_eq] at hv; simpa using hv)
theorem indexAny_here {chars : Bs} : ∀ {l : Bs} {p : Nat} {b : UInt8}, l[p]? = some b → chars.contains b = true → (∀ j, j < p → ∀ c, l[j]? = some c → chars.contains c = false) → Lib.indexAny l chars = (p : Int)
  | [], p, b, h, _, _ => by simp at h
  | c :: l, 0, b, h, hb, _ => by
    obtain rfl : c = b := by simpa using h
    rw [Lib.indexAny, if_pos hb]; rfl
  | c :: l, p + 1, b, h, hb, hn => by
    have h0 := hn 0 (by omega) c rfl
    have ih := indexAny_here (l := l) (p := p) (by simpa using h) hb (fun j hj d hd => hn (j + 1) (by omega) d (by simpa using hd))
    rw [Lib.indexAny, h0, ih]
    have e : ((p : Int) == -1) = false := beq_eq_false_iff_ne.2 (by omega)
    simp [e]
theorem indexAny_no {chars : Bs} : ∀ {l : Bs}, (∀ c ∈ l, chars.contains c = false) → Lib.indexAny l chars = -1
  | [], _ => rfl
  | c :: l, h => by
    have ih := indexAny_no (l := l) (fun d hd => h d (List.mem_cons_of_mem _ hd))
    rw [Lib.indexAny, h c (List.mem_cons_self ..), ih]
    rfl
theorem NoSign.at_end {s : ByteArray} {g : Bs} (h : NoSign s g s.size) : Lib.indexAny s.data.toList g = -1 :=
  indexAny_no fun c hc => by
    obtain ⟨j, hj, rfl⟩ := List.mem_iff_getElem.1 hc
    exact h.2 j (by simpa using hj) (by simpa using hj)
theorem NoSign.at_hit {s : ByteArray} {g : Bs} {p : Nat} (h : NoSign s g p) (hp : p < s.size) (hc : g.contains s[p] = true) : Lib.indexAny s.data.toList g = (p : Int) := by
  have hl : p < s.data.toList.length := by simpa using hp
  refine indexAny_here (b := s[p]) (List.getElem?_eq_getElem hl) hc (fun j hj c hjc => ?_)
  obtain ⟨hjl, rfl⟩ := List.getElem?_eq_some_iff.1 hjc
  exact h.2 j (by simpa using hjl) hj
set_option maxHeartbeats 400000 in
theorem indexAnyX_short (s g : ByteArray) (w : World) (hg : ∀ b ∈ g.data.toList, b.toNat < 128) (h4 : 2 ≤ g.size) (h5 : g.size ≤ 200) (h8 : s.size ≤ 8) :
    Calls Tryz.prog 36 #[.string s, .string g] w fun e w' => e = .returned (.int .i64 (Lib.indexAny s.data.toList g.data.toList)) ∧ Below w.heap.size w w' := by
  have HG := Lib.hid hg
  clear hg
  have hemp : g.toList.isEmpty = false := by
    rw [ByteArray.toList_eq]
    cases h : g.data.toList with
    | nil => have := size_list g; rw [h, List.length_nil] at this; omega
    | cons _ _ => rfl
  have hn1 : ((g.size : Int) == 1) = false := beq_eq_false_iff_ne.2 (by omega)
  have h8z : decide ((8 : Int) < (s.size : Int)) = false := decide_eq_false (by omega)
  go_enter Tryz.func36, Tryz.ntmps36
  go_wp2_with (go_at_call 58; refine (Tryz.strings_shouldUseASCIISet _ _).mono ?_; rintro e w' ⟨rfl, hw⟩; rw [hw, h8z])
  go_loopg [9, 10] s.size (fun n _ _ wx => ∃ p : Nat, p + n = s.size ∧ wx.heap[w.heap.size]? = some (.stringIter s p) ∧ Hid (NoSign s g.data.toList p) ∧ Below w.heap.size w wx)
  case atStart => exact ⟨0, by omega, World.iter_heap _ _ _, ⟨by omega, fun _ _ h => absurd h (by omega)⟩, (Below.refl _ _).alloc (Nat.le_refl _) _⟩
  case round =>
    obtain ⟨p, hpn, hit, HN, hb⟩ := hrel
    cases gk with
    | zero =>
      obtain rfl : p = s.size := by omega
      have hnx := fun ty => Lib.run_next_end_at (P := Tryz.prog) wr w.heap.size s s.size ty hit (by omega)
      go_wp2
      go_ret
      exact ⟨by rw [HN.out.at_end]; rfl, hb⟩
    | succ n =>
      have hp : p < s.size := by omega
      by_cases hx : (s[p]'hp).toNat < 128
      · have hnx := fun ty => Lib.run_next_ascii_at (P := Tryz.prog) wr w.heap.size s p ty hit hp hx
        have hcon := Lib.contains_iff_indexByte g.data.toList (s[p]'hp)
        have hback : (((s[p]'hp).toNat : Int)).toNat.toUInt8 = s[p]'hp := by simp
        cases hin : g.data.toList.contains (s[p]'hp)
        · rw [hin] at hcon
          have hlt : Lib.indexByte g.data.toList (s[p]'hp) < 0 := by have := of_decide_eq_false hcon.symm; omega
          clear hcon
          have HI := Lib.hid hin
          clear hin
          go_wp2_with (go_at_call 57; refine (Tryz.strings_IndexRune_ascii _ _ _ (by omega) (by omega)).mono ?_; rintro e w' ⟨rfl, hw⟩; rw [hw, hback])
          go_roundg n
          case measure => omega
          case rel => exact ⟨p + 1, by omega, Lib.iterAt_heap _ _ _ _ _ hit, HN.out.step hp HI.out, Lib.below_iterAt hb (Nat.le_refl _) _ _⟩
        · rw [hin] at hcon
          have hge : 0 ≤ Lib.indexByte g.data.toList (s[p]'hp) := of_decide_eq_true hcon.symm
          clear hcon
          have HI := Lib.hid hin
          clear hin
          go_wp2_with (go_at_call 57; refine (Tryz.strings_IndexRune_ascii _ _ _ (by omega) (by omega)).mono ?_; rintro e w' ⟨rfl, hw⟩; rw [hw, hback])
          go_ret
          exact ⟨by rw [HN.out.at_hit hp HI.out]; simp, Lib.below_iterAt hb (Nat.le_refl _) _ _⟩
      · obtain ⟨d1, d2⟩ := decode_high s p hp (by omega)
        obtain ⟨d3, d4⟩ := decode_bytes s p hp (by omega)
        have D4 := Lib.hid d4
        clear d4
        have hnx := fun ty => Lib.run_next_any_at (P := Tryz.prog) wr w.heap.size s p ty hit hp
        generalize hc : (Utf8.decode s p).1 = c at d1 hnx
        generalize hd : (Utf8.decode s p).2 = d at d2 d3 D4 hnx
        clear hc hd
        go_wp2_with (go_at_call 57; refine (indexRune_high2 _ _ _ HG.out h4 h5 (by omega)).mono ?_; rintro e w2 ⟨rfl, hb2⟩)
        go_roundg (s.size - (p + d))
        case measure => omega
        case rel => exact ⟨p + d, by omega, (hb2.block _ (by rw [Lib.iterAt_size]; exact (Array.getElem?_eq_some_iff.1 hit).1)).trans (Lib.iterAt_heap _ _ _ _ _ hit), HN.out.jump d3 D4.out HG.out, (Lib.below_iterAt hb (Nat.le_refl _) _ _).trans (hb2.mono (by rw [Lib.iterAt_size]; exact hb.size))⟩
theorem indexAnyX_any (s g : ByteArray) (w : World) (hg : ∀ b ∈ g.data.toList, b.toNat < 128) (h4 : 2 ≤ g.size) (h5 : g.size ≤ 200) (hs : s.size < 4294967281) :
    Calls Tryz.prog 36 #[.string s, .string g] w fun e w' => e = .returned (.int .i64 (Lib.indexAny s.data.toList g.data.toList)) ∧ Below w.heap.size w w' := by
  rcases Nat.lt_or_ge 8 s.size with h | h
  · refine (Tryz.strings_IndexAny_long (fun w => by kernel_rfl) s g w h4 h hs (by omega) (fun j b hb => hg b (List.mem_of_getElem? hb))).mono ?_
    rintro e w' ⟨rfl, rfl⟩
    exact ⟨rfl, ((Below.refl _ w).alloc (Nat.le_refl _) _).alloc (by simp) _⟩
  · exact indexAnyX_short s g w hg h4 h5 h
end Go.Proofs.YtcjmfjccjhdgjaaGreatDoor
namespace Go.Bd
def lastAny : Bs → Bs → Int
  | [], _ => -1
  | b :: l, g => if 0 ≤ lastAny l g then lastAny l g + 1 else if g.contains b then 0 else -1
theorem lastAny_no {g : Bs} : ∀ {l : Bs}, (∀ c ∈ l, g.contains c = false) → lastAny l g = -1
  | [], _ => rfl
  | c :: l, h => by
    have ih := lastAny_no (l := l) (fun d hd => h d (List.mem_cons_of_mem _ hd))
    rw [lastAny, ih, h c (List.mem_cons_self ..)]
    rfl
theorem lastAny_here {g : Bs} : ∀ {l : Bs} {p : Nat} {b : UInt8}, l[p]? = some b → g.contains b = true → (∀ j, p < j → ∀ c, l[j]? = some c → g.contains c = false) → lastAny l g = (p : Int)
  | [], p, b, h, _, _ => by simp at h
  | c :: l, 0, b, h, hb, hn => by
    obtain rfl : c = b := by simpa using h
    have ih := lastAny_no (g := g) (l := l) (fun d hd => by
      obtain ⟨j, hj, rfl⟩ := List.mem_iff_getElem.1 hd
      exact hn (j + 1) (by omega) _ (by rw [List.getElem?_cons_succ, List.getElem?_eq_getElem hj]))
    rw [lastAny, ih, hb]
    rfl
  | c :: l, p + 1, b, h, hb, hn => by
    have ih := lastAny_here (l := l) (p := p) (by simpa using h) hb (fun j hj d hd => hn (j + 1) (by omega) d (by simpa using hd))
    rw [lastAny, ih, if_pos (by omega)]
    rfl
def NoFrom (s : ByteArray) (g : Bs) (p : Nat) : Prop := p ≤ s.size ∧ ∀ j (h : j < s.size), p ≤ j → g.contains s[j] = false
theorem NoFrom.at_end {s : ByteArray} {g : Bs} (h : NoFrom s g 0) : lastAny s.data.toList g = -1 :=
  lastAny_no fun c hc => by
    obtain ⟨j, hj, rfl⟩ := List.mem_iff_getElem.1 hc
    exact h.2 j (by simpa using hj) (Nat.zero_le _)
theorem NoFrom.at_hit {s : ByteArray} {g : Bs} {p : Nat} (h : NoFrom s g (p + 1)) (hp : p < s.size) (hc : g.contains s[p] = true) : lastAny s.data.toList g = (p : Int) := by
  have hl : p < s.data.toList.length := by simpa using hp
  refine lastAny_here (b := s[p]) (List.getElem?_eq_getElem hl) hc (fun j hj c hjc => ?_)
  obtain ⟨hjl, rfl⟩ := List.getElem?_eq_some_iff.1 hjc
  exact h.2 j (by simpa using hjl) hj
theorem NoFrom.back {s : ByteArray} {g : Bs} {p : Nat} (h : NoFrom s g (p + 1)) (hp : p < s.size) (hc : g.contains s[p] = false) : NoFrom s g p := by
  refine ⟨by omega, fun j hj hjp => ?_⟩
  by_cases e : j = p
  · subst e; exact hc
  · exact h.2 j hj (by omega)
theorem NoFrom.jump {s : ByteArray} {g : Bs} {p d : Nat} (h : NoFrom s g (p + d)) (h1 : ∀ j (hj : p + j < s.size), j < d → 128 ≤ (s[p + j]'hj).toNat) (hg : ∀ b ∈ g, b.toNat < 128) : NoFrom s g p := by
  refine ⟨by have := h.1; omega, fun j hj hjp => ?_⟩
  by_cases e : p + d ≤ j
  · exact h.2 j hj e
  · rw [Bool.eq_false_iff]
    intro hc
    have h2 := hg _ (by simpa using hc)
    obtain ⟨k, rfl⟩ : ∃ k, j = p + k := ⟨j - p, by omega⟩
    have := h1 k hj (by omega)
    omega
end Go.Bd
namespace Go.Proofs.YtcjmfjccjhdgjaaGreatDoor
open Go.RowKit Go.Bd
set_option maxRecDepth 100000 in
set_option maxHeartbeats 1000000 in
theorem lastIndexAny_one (s g : ByteArray) (w : World) (hg : ∀ b ∈ g.data.toList, b.toNat < 128) (h4 : 2 ≤ g.size) (h5 : g.size ≤ 200) (h1 : s.size = 1) :
    Calls Tryz.prog 53 #[.string s, .string g] w fun e w' => e = .returned (.int .i64 (lastAny s.data.toList g.data.toList)) ∧ Below w.heap.size w w' := by
  have HG := Lib.hid hg
  clear hg
  have hemp : g.toList.isEmpty = false := by
    rw [ByteArray.toList_eq]
    cases h : g.data.toList with
    | nil => have := size_list g; rw [h, List.length_nil] at this; omega
    | cons _ _ => rfl
  have hne : (g.toList == [] : Bool) = false := by
    rw [ByteArray.toList_eq]
    cases h : g.data.toList with
    | nil => have := size_list g; rw [h, List.length_nil] at this; omega
    | cons _ _ => rfl
  have hp : 0 < s.size := by omega
  have hN1 : NoFrom s g.data.toList (0 + 1) := ⟨by omega, fun j hj h => by omega⟩
  have h255 : (s[0]'hp).toNat < 256 := (s[0]'hp).toNat_lt
  have hw32 : wrap32 ((s[0]'hp).toNat : Int) = ((s[0]'hp).toNat : Int) := IntWalk.wrap32_in _ (by omega)
  by_cases hx : (s[0]'hp).toNat < 128
  · have hcon := Lib.contains_iff_indexByte g.data.toList (s[0]'hp)
    have hback : (((s[0]'hp).toNat : Int)).toNat.toUInt8 = s[0]'hp := by simp
    cases hin : g.data.toList.contains (s[0]'hp)
    · rw [hin] at hcon
      have hlt : Lib.indexByte g.data.toList (s[0]'hp) < 0 := by have := of_decide_eq_false hcon.symm; omega
      have hres := (hN1.back hp hin).at_end
      have HR := Lib.hid hres
      clear hcon hin hN1 hres
      go_enter Tryz.func53, Tryz.ntmps53
      go_wp2_with (go_at_call 57; refine (Tryz.strings_IndexRune_ascii _ _ _ (by omega) (by omega)).mono ?_; rintro e w' ⟨rfl, hw⟩; rw [hw, hback])
      go_ret
      exact ⟨by rw [HR.out]; rfl, Below.refl _ _⟩
    · rw [hin] at hcon
      have hge : 0 ≤ Lib.indexByte g.data.toList (s[0]'hp) := of_decide_eq_true hcon.symm
      have hres := hN1.at_hit hp hin
      have HR := Lib.hid hres
      clear hcon hin hN1 hres
      go_enter Tryz.func53, Tryz.ntmps53
      go_wp2_with (go_at_call 57; refine (Tryz.strings_IndexRune_ascii _ _ _ (by omega) (by omega)).mono ?_; rintro e w' ⟨rfl, hw⟩; rw [hw, hback])
      go_ret
      exact ⟨by rw [HR.out]; rfl, Below.refl _ _⟩
  · have hin : g.data.toList.contains (s[0]'hp) = false := by
      rw [Bool.eq_false_iff]
      intro hc
      have := HG.out _ (by simpa using hc)
      omega
    have hres := (hN1.back hp hin).at_end
    have HR := Lib.hid hres
    clear hin hN1 hres
    go_enter Tryz.func53, Tryz.ntmps53
    have hB := indexRune_bad g w HG.out
    go_wp2_with (go_at_call 57; refine hB.mono ?_; rintro e w2 ⟨rfl, hb2⟩)
    go_ret
    exact ⟨by rw [HR.out]; rfl, hb2⟩
set_option maxRecDepth 100000 in
set_option maxHeartbeats 2000000 in
theorem lastIndexAny_long (s g : ByteArray) (w : World) (hg : ∀ b ∈ g.data.toList, b.toNat < 128) (h4 : 2 ≤ g.size) (h5 : g.size ≤ 200) (h8 : 8 < s.size) (hs : s.size < 4294967281) :
    Calls Tryz.prog 53 #[.string s, .string g] w fun e w' => e = .returned (.int .i64 (lastAny s.data.toList g.data.toList)) ∧ Below w.heap.size w w' := by
  have hM := Tryz.strings_makeASCIISet (fun w => by kernel_rfl) g w (by omega) (fun j b hb => hg b (List.mem_of_getElem? hb))
  have HG := Lib.hid hg
  clear hg
  have hemp : g.toList.isEmpty = false := by
    rw [ByteArray.toList_eq]
    cases h : g.data.toList with
    | nil => have := size_list g; rw [h, List.length_nil] at this; omega
    | cons _ _ => rfl
  have hne : (g.toList == [] : Bool) = false := by
    rw [ByteArray.toList_eq]
    cases h : g.data.toList with
    | nil => have := size_list g; rw [h, List.length_nil] at this; omega
    | cons _ _ => rfl
  have hn1 : ((g.size : Int) == 1) = false := beq_eq_false_iff_ne.2 (by omega)
  have hs1 : ((s.size : Int) == 1) = false := beq_eq_false_iff_ne.2 (by omega)
  have h8z : decide ((8 : Int) < (s.size : Int)) = true := decide_eq_true (by omega)
  have hi116 : (Tryz.prog.info? 99).map (·.size) = some 256 := by kernel_rfl
  have hsc : (storeCells ⟨w.heap.size + 1, 0, none⟩ (Lib.setCells g.data.toList).toList 0).run Tryz.prog ((w.alloc (.cells (Lib.setCells g.data.toList) 99)).alloc (.cells (Array.replicate 256 (.bool false)) 99)) = .ok () ((w.alloc (.cells (Lib.setCells g.data.toList) 99)).alloc (.cells (Lib.setCells g.data.toList) 99)) := by
    have := run_storeCells_new (P := Tryz.prog) (w.alloc (.cells (Lib.setCells g.data.toList) 99)) 99 (Array.replicate 256 (.bool false)) (Lib.setCells g.data.toList) (by rw [Lib.setCells_size]; exact hi116) (by rw [Lib.setCells_size, Array.size_replicate]) (Lib.setCells_one _)
    simpa using this
  have hsz := Lib.setCells_size g.data.toList
  have hcellAt : ∀ x : UInt8, ((w.alloc (.cells (Lib.setCells g.data.toList) 99)).alloc (.cells (Lib.setCells g.data.toList) 99)).cell? ⟨w.heap.size + 1, x.toNat, none⟩ = some (.bool (g.data.toList.contains x)) := fun x => by
    rw [World.cell?_alloc_at _ _ _ _ (by simp), Lib.setCells_at]
  have HC := Lib.hid hcellAt
  clear hcellAt
  go_enter Tryz.func53, Tryz.ntmps53
  go_wp2_with (first
    | (go_at_call 58; refine (Tryz.strings_shouldUseASCIISet _ _).mono ?_; rintro e w' ⟨rfl, hw⟩; rw [hw, h8z])
    | (go_at_call 48; refine hM.mono ?_; rintro e w' ⟨rfl, hw⟩; rw [hw]))
  have hz116 : ∀ w, (zeroValue 99).run Tryz.prog w = .ok (.agg (Array.replicate 256 (.bool false))) w := fun w => by kernel_rfl
  have hzc : Tryz.zeroCells99 = Array.replicate 256 (.bool false) := by kernel_rfl
  simp only [hz116, Result.andThen, ↓reduceIte, hzc, hsc]
  rw [Oper.upon_skip]
  go_wp2
  clear hM hsc
  go_loopg [8] s.size (fun n s8 wx => ∃ i : Nat, i = n ∧ i ≤ s.size ∧ s8 = .int .i64 ((i : Int) - 1) ∧ wx = ((w.alloc (.cells (Lib.setCells g.data.toList) 99)).alloc (.cells (Lib.setCells g.data.toList) 99)) ∧ Hid (NoFrom s g.data.toList i))
  case atStart => exact ⟨s.size, rfl, Nat.le_refl _, by simp, rfl, ⟨Nat.le_refl _, fun j hj h => by omega⟩⟩
  case round =>
    obtain ⟨i, hin, his, rfl, rfl, HN⟩ := hrel
    cases gk with
    | zero =>
      obtain rfl : i = 0 := hin
      go_wp2
      go_ret
      exact ⟨by rw [HN.out.at_end]; rfl, ((Below.refl _ w).alloc (Nat.le_refl _) _).alloc (by simp) _⟩
    | succ n =>
      obtain rfl : i = n + 1 := hin
      have hi : n < s.size := by omega
      have hiz : ((n + 1 : Nat) : Int) - 1 = (n : Int) := by omega
      simp only [hiz]
      obtain ⟨x, hx⟩ : ∃ x : UInt8, s[n]'hi = x := ⟨_, rfl⟩
      have Hx := Lib.hid hx
      have hcx := HC.out x
      cases hin : g.data.toList.contains x <;> rw [hin] at hcx
      · have hni : g.data.toList.contains (s[n]'hi) = false := by rw [hx]; exact hin
        have HB := Lib.hid (HN.out.back hi hni)
        clear hin hni
        go_wp2_with (go_at_call 59; refine (Tryz.asciiSet_contains _ x _ _ hcx).mono ?_; rintro e w' ⟨rfl, hw⟩; rw [hw])
        go_roundg n
        case measure => omega
        case rel => exact ⟨n, rfl, by omega, by go_num, rfl, HB.out⟩
      · have hni : g.data.toList.contains (s[n]'hi) = true := by rw [hx]; exact hin
        have HB := Lib.hid (HN.out.at_hit hi hni)
        clear hin hni
        go_wp2_with (go_at_call 59; refine (Tryz.asciiSet_contains _ x _ _ hcx).mono ?_; rintro e w' ⟨rfl, hw⟩; rw [hw])
        go_ret
        exact ⟨by rw [HB.out]; rfl, ((Below.refl _ w).alloc (Nat.le_refl _) _).alloc (by simp) _⟩
end Go.Proofs.YtcjmfjccjhdgjaaGreatDoor
namespace Go.Proofs.YtcjmfjccjhdgjaaGreatDoor
open Go.RowKit Go.Bd
theorem get_cong (s : ByteArray) {i j : Nat} (h : i = j) (hi : i < s.size) : s[i]'hi = s[j]'(h ▸ hi) := by subst h; rfl
theorem ext_get (s : ByteArray) (a j : Nat) (h : a + j < s.size) (hj : j < (s.extract a s.size).size) : (s.extract a s.size)[j]'hj = s[a + j]'h := by
  rw [ByteArray.getElem_extract]
set_option maxHeartbeats 1000000 in
theorem last_high (s : ByteArray) (h0 : 0 < s.size) (hhi : 128 ≤ (s[s.size - 1]'(by omega)).toNat) :
    128 ≤ (Lib.decodeLastL s.data.toList).1 ∧ 1 ≤ (Lib.decodeLastL s.data.toList).2 ∧ (Lib.decodeLastL s.data.toList).2 ≤ s.size ∧ ∀ j (hj : (s.size - (Lib.decodeLastL s.data.toList).2) + j < s.size), j < (Lib.decodeLastL s.data.toList).2 → 128 ≤ (s[(s.size - (Lib.decodeLastL s.data.toList).2) + j]'hj).toNat := by
  have hne : s.data.toList ≠ [] := fun e => by
    have := size_list s
    rw [e, List.length_nil] at this
    omega
  have hlt := Lib.lastStart_lt _ hne
  rw [← size_list] at hlt
  have hg : (s.get! (s.size - 1)).toNat = (s[s.size - 1]'(by omega)).toNat := by
    have : s.get! (s.size - 1) = s[s.size - 1]'(by omega) := by
      have hk : s.size - 1 < s.size := by omega
      simp [ByteArray.get!, getElem!_pos, hk]; rfl
    rw [this]
  rw [Lib.decodeLastL_eq s h0 (by omega)]
  generalize hst : Lib.lastStart s.data.toList = st at hlt
  have hts : (s.extract st s.size).size = s.size - st := by rw [ByteArray.size_extract]; omega
  have hgo : Lib.decodeGo (s.extract st s.size) = Utf8.decode (s.extract st s.size) 0 := by unfold Lib.decodeGo; rw [if_neg (by omega)]
  have ht0 : 0 < (s.extract st s.size).size := by omega
  unfold Lib.lastOf
  rw [hgo]
  by_cases hc : st + (Utf8.decode (s.extract st s.size) 0).2 = s.size
  · rw [if_pos hc]
    by_cases hx : ((s.extract st s.size)[0]'ht0).toNat < 128
    · exfalso
      have hd : (Utf8.decode (s.extract st s.size) 0).2 = 1 := by simp only [Utf8.decode, get_at _ 0 ht0, hx, if_true]
      rw [hd] at hc
      rw [ext_get s st 0 (by omega)] at hx
      have e := get_cong s (show st + 0 = s.size - 1 by omega) (by omega)
      rw [e] at hx
      omega
    · obtain ⟨d1, d2⟩ := decode_high (s.extract st s.size) 0 ht0 (by omega)
      obtain ⟨d3, d4⟩ := decode_bytes (s.extract st s.size) 0 ht0 (by omega)
      refine ⟨d1, d2, by omega, fun j hj hl => ?_⟩
      have hl' : j < (Utf8.decode (s.extract st s.size) 0).2 := hl
      have h5 := d4 j (by omega) hl'
      rw [ext_get s st (0 + j) (by omega) (by omega)] at h5
      have e2 := get_cong s (show (s.size - (Utf8.decode (s.extract st s.size) 0).2) + j = st + (0 + j) by omega) hj
      show 128 ≤ (s[(s.size - (Utf8.decode (s.extract st s.size) 0).2) + j]'hj).toNat
      rw [e2]
      exact h5
  · rw [if_neg hc]
    refine ⟨by decide, Nat.le_refl _, by omega, fun j hj hl => ?_⟩
    have hl' : j < 1 := hl
    obtain rfl : j = 0 := by omega
    show 128 ≤ (s[(s.size - 1) + 0]'hj).toNat
    exact hhi
theorem last_low (s : ByteArray) (h0 : 0 < s.size) (hlo : (s[s.size - 1]'(by omega)).toNat < 128) : Lib.decodeLastL s.data.toList = ((s[s.size - 1]'(by omega)).toNat, 1) := by
  have hne : s.data.toList ≠ [] := fun e => by
    have := size_list s
    rw [e, List.length_nil] at this
    omega
  have hl : s.data.toList.length = s.size := (size_list s).symm
  have hd : s.data.toList.getD (s.data.toList.length - 1) 0 = s[s.size - 1]'(by omega) := by
    rw [hl, getD_get (by omega)]
  unfold Lib.decodeLastL
  rw [if_neg hne, hd, if_pos hlo]
set_option maxRecDepth 100000 in
set_option maxHeartbeats 2000000 in
theorem lastIndexAny_short (s g : ByteArray) (w : World) (hg : ∀ b ∈ g.data.toList, b.toNat < 128) (h4 : 2 ≤ g.size) (h5 : g.size ≤ 200) (h8 : s.size ≤ 8) (h1 : s.size ≠ 1) (hT : Lib.Utf8Tabs 1 2 w) :
    Calls Tryz.prog 53 #[.string s, .string g] w fun e w' => e = .returned (.int .i64 (lastAny s.data.toList g.data.toList)) ∧ Below w.heap.size w w' := by
  have HG := Lib.hid hg
  have HT := Lib.hid hT
  clear hg hT
  have hemp : g.toList.isEmpty = false := by
    rw [ByteArray.toList_eq]
    cases h : g.data.toList with
    | nil => have := size_list g; rw [h, List.length_nil] at this; omega
    | cons _ _ => rfl
  have hne : (g.toList == [] : Bool) = false := by
    rw [ByteArray.toList_eq]
    cases h : g.data.toList with
    | nil => have := size_list g; rw [h, List.length_nil] at this; omega
    | cons _ _ => rfl
  have hn1 : ((g.size : Int) == 1) = false := beq_eq_false_iff_ne.2 (by omega)
  have hs1 : ((s.size : Int) == 1) = false := beq_eq_false_iff_ne.2 (by omega)
  have h8z : decide ((8 : Int) < (s.size : Int)) = false := decide_eq_false (by omega)
  go_enter Tryz.func53, Tryz.ntmps53
  go_wp2_with (go_at_call 58; refine (Tryz.strings_shouldUseASCIISet _ _).mono ?_; rintro e w' ⟨rfl, hw⟩; rw [hw, h8z])
  go_loopg [13, 14, 15] s.size (fun n s10 _ _ wx => ∃ i : Nat, i = n ∧ i ≤ s.size ∧ s10 = .int .i64 (i : Int) ∧ Below w.heap.size w wx ∧ Hid (NoFrom s g.data.toList i))
  case atStart => exact ⟨s.size, rfl, Nat.le_refl _, rfl, Below.refl _ _, ⟨Nat.le_refl _, fun j hj h => by omega⟩⟩
  case round =>
    obtain ⟨i, rfl, his, rfl, hb, HN⟩ := hrel
    by_cases hi0 : i = 0
    · subst hi0
      go_wp2
      go_ret
      exact ⟨by rw [HN.out.at_end]; rfl, hb⟩
    · have hi : 0 < i := by omega
      have hts : (s.extract 0 i).size = i := by rw [ByteArray.size_extract]; omega
      have hT1 : Lib.Utf8Tabs 1 2 wr := Utf8Tabs_below HT.out hb
      have cd := Tryz.utf8_DecodeLastRuneInString (s.extract 0 i) wr (by omega) hT1
      have hlast : ∀ j (hj : j < (s.extract 0 i).size), (s.extract 0 i)[j]'hj = s[j]'(by omega) := fun j hj => by
        rw [ByteArray.getElem_extract]
        exact get_cong s (by omega) _
      by_cases hx : (s[i - 1]'(by omega)).toNat < 128
      · have hlow := last_low (s.extract 0 i) (by omega) (by rw [hlast]; have e := get_cong s (show (s.extract 0 i).size - 1 = i - 1 by omega) (by omega); rw [e]; exact hx)
        have hlv : (s.extract 0 i)[(s.extract 0 i).size - 1]'(by omega) = s[i - 1]'(by omega) := by
          rw [hlast]
          exact get_cong s (show (s.extract 0 i).size - 1 = i - 1 by omega) _
        rw [hlv] at hlow
        rw [hlow] at cd
        have hcon := Lib.contains_iff_indexByte g.data.toList (s[i - 1]'(by omega))
        have hback : (((s[i - 1]'(by omega)).toNat : Int)).toNat.toUInt8 = s[i - 1]'(by omega) := by simp
        have hii : i - 1 + 1 = i := by omega
        have HN1 : NoFrom s g.data.toList (i - 1 + 1) := by rw [hii]; exact HN.out
        cases hin : g.data.toList.contains (s[i - 1]'(by omega))
        · rw [hin] at hcon
          have hlt : Lib.indexByte g.data.toList (s[i - 1]'(by omega)) < 0 := by have := of_decide_eq_false hcon.symm; omega
          have HJ := Lib.hid (HN1.back (by omega) hin)
          clear hcon hin HN1 HN hlast hlow hlv
          go_wp2_with (first
            | (go_at_call 75; refine cd.mono ?_; rintro e w2 ⟨rfl, hb2⟩)
            | (go_at_call 57; refine (Tryz.strings_IndexRune_ascii _ _ _ (by omega) (by omega)).mono ?_; rintro e w3 ⟨rfl, hw⟩; rw [hw, hback]))
          go_roundg (i - 1)
          case measure => omega
          case rel => exact ⟨i - 1, rfl, by omega, by go_num, hb.trans (hb2.mono hb.size), HJ.out⟩
        · rw [hin] at hcon
          have hge : 0 ≤ Lib.indexByte g.data.toList (s[i - 1]'(by omega)) := of_decide_eq_true hcon.symm
          have HJ := Lib.hid (HN1.at_hit (by omega) hin)
          clear hcon hin HN1 HN hlast hlow hlv
          go_wp2_with (first
            | (go_at_call 75; refine cd.mono ?_; rintro e w2 ⟨rfl, hb2⟩)
            | (go_at_call 57; refine (Tryz.strings_IndexRune_ascii _ _ _ (by omega) (by omega)).mono ?_; rintro e w3 ⟨rfl, hw⟩; rw [hw, hback]))
          go_ret
          refine ⟨?_, hb.trans (hb2.mono hb.size)⟩
          have e1 : ((i - 1 : Nat) : Int) = (i : Int) - 1 := by omega
          rw [HJ.out, e1]
          rfl
      · obtain ⟨d1, d2, d3, d4⟩ := last_high (s.extract 0 i) (by omega) (by rw [hlast]; have e := get_cong s (show (s.extract 0 i).size - 1 = i - 1 by omega) (by omega); rw [e]; omega)
        rw [hts] at d3
        have hjump : NoFrom s g.data.toList (i - (Lib.decodeLastL (s.extract 0 i).data.toList).2) := by
          refine NoFrom.jump (d := (Lib.decodeLastL (s.extract 0 i).data.toList).2) (by rw [Nat.sub_add_cancel d3]; exact HN.out) (fun j hj hl => ?_) HG.out
          have h6 := d4 j (by omega) hl
          rw [hlast] at h6
          have e := get_cong s (show (s.extract 0 i).size - (Lib.decodeLastL (s.extract 0 i).data.toList).2 + j = i - (Lib.decodeLastL (s.extract 0 i).data.toList).2 + j by omega) (by omega)
          rw [e] at h6
          exact h6
        generalize Lib.decodeLastL (s.extract 0 i).data.toList = dd at cd d1 d2 d3 hjump
        clear d4 hlast hx
        have HJ := Lib.hid hjump
        clear hjump HN
        go_wp2_with (first
          | (go_at_call 75; refine cd.mono ?_; rintro e w2 ⟨rfl, hb2⟩)
          | (go_at_call 57; refine (indexRune_high2 _ _ _ HG.out h4 h5 (by omega)).mono ?_; rintro e w3 ⟨rfl, hb3⟩))
        go_roundg (i - dd.2)
        case measure => omega
        case rel => exact ⟨i - dd.2, rfl, by omega, by go_num, (hb.trans (hb2.mono hb.size)).trans (hb3.mono (Nat.le_trans hb.size hb2.size)), HJ.out⟩
theorem lastIndexAny_any (s g : ByteArray) (w : World) (hg : ∀ b ∈ g.data.toList, b.toNat < 128) (h4 : 2 ≤ g.size) (h5 : g.size ≤ 200) (hs : s.size < 4294967281) (hT : Lib.Utf8Tabs 1 2 w) :
    Calls Tryz.prog 53 #[.string s, .string g] w fun e w' => e = .returned (.int .i64 (lastAny s.data.toList g.data.toList)) ∧ Below w.heap.size w w' := by
  by_cases h1 : s.size = 1
  · exact lastIndexAny_one s g w hg h4 h5 h1
  · rcases Nat.lt_or_ge 8 s.size with h | h
    · exact lastIndexAny_long s g w hg h4 h5 h hs
    · exact lastIndexAny_short s g w hg h4 h5 h h1 hT
end Go.Proofs.YtcjmfjccjhdgjaaGreatDoor
namespace Go.Bd
def runOf (l : Bs) (c : UInt8) : Nat := (l.takeWhile (· == c)).length
def leadB (l : Bs) (c : UInt8) : Nat × Bs := if runOf l c < 1 ∨ 3 < runOf l c ∨ l[runOf l c]? ≠ some 32 then (0, []) else (runOf l c, dropL (l.drop (runOf l c)))
def commandB (l : Bs) : Option (Bs × Bs) :=
  if l.length < 2 ∨ l.getD 0 0 ≠ 33 ∨ (l.getD 1 0 ||| 32).toNat < 97 ∨ 122 < (l.getD 1 0 ||| 32).toNat then none
  else if 0 ≤ Lib.indexAny (l.drop 1) [32, 9] then some ((l.drop 1).take (Lib.indexAny (l.drop 1) [32, 9]).toNat, dropL ((l.drop 1).drop (Lib.indexAny (l.drop 1) [32, 9]).toNat)) else some (l.drop 1, [])
def titleB (l : Bs) : Bs × Bs × Bs :=
  if lastAny l [32, 9] < 0 ∨ (l.drop ((lastAny l [32, 9]).toNat + 1)).getD 0 0 ≠ 35 then (l, [], [])
  else if nameB ((l.drop ((lastAny l [32, 9]).toNat + 1)).drop 1) = true then (dropR (l.take (lastAny l [32, 9]).toNat), (l.drop ((lastAny l [32, 9]).toNat + 1)).drop 1, []) else (l, [], l.drop ((lastAny l [32, 9]).toNat + 1))
def itemB (l : Bs) : Nat × Bool × Bs := if 0 < (leadB (trim l) 42).1 then ((leadB (trim l) 42).1, false, (leadB (trim l) 42).2) else if 0 < (leadB (trim l) 46).1 then ((leadB (trim l) 46).1, true, (leadB (trim l) 46).2) else (0, false, [])
def headB (l : Bs) : Nat × Bs × Bs := if (leadB (trim l) 61).1 = 0 then (0, [], []) else ((leadB (trim l) 61).1, (titleB (leadB (trim l) 61).2).1, (titleB (leadB (trim l) 61).2).2.1)
def fenceL : Bs := [45, 45, 45, 45]
def barsL : Bs := [124, 61, 61, 61]
def plainL (l : Bs) : Bool := !(decide (l = []) || decide (l = fenceL) || Lib.hasPrefix l barsL) && (commandB l).isNone && decide ((leadB l 61).1 = 0) && decide ((itemB l).1 = 0)
theorem runOf_at {l : Bs} {c : UInt8} : ∀ {k : Nat}, k ≤ l.length → (∀ j, j < k → l[j]? = some c) → (∀ b, l[k]? = some b → b ≠ c) → runOf l c = k := by
  induction l with
  | nil => intro k hk _ _; simp at hk; subst hk; rfl
  | cons a l ih =>
    intro k hk h1 h2
    cases k with
    | zero =>
      have : a ≠ c := h2 a rfl
      unfold runOf
      rw [List.takeWhile_cons, if_neg (by simpa using this)]
      rfl
    | succ k =>
      obtain rfl : a = c := by simpa using h1 0 (by omega)
      have := ih (k := k) (by simpa using hk) (fun j hj => by simpa using h1 (j + 1) (by omega)) (fun b hb => h2 b (by simpa using hb))
      unfold runOf at this ⊢
      rw [List.takeWhile_cons, if_pos (by simp), List.length_cons, this]
theorem dropL_le (l : Bs) : (dropL l).length ≤ l.length := by
  unfold dropL
  induction l with
  | nil => simp
  | cons a l ih =>
    rw [List.dropWhile_cons]
    split
    · simp only [List.length_cons]; omega
    · simp
theorem lead_le (l : Bs) (c : UInt8) : (leadB l c).2.length ≤ l.length := by
  unfold leadB
  split
  · simp
  · have := dropL_le (l.drop (runOf l c))
    rw [List.length_drop] at this
    simp only
    omega
end Go.Bd
namespace Go.Proofs.YtcjmfjccjhdgjaaGreatDoor
open Go.RowKit Go.Bd
theorem strV_of {s : ByteArray} {l : Bs} (h : s.data.toList = l) : Value.string s = strV l := by
  subst h; simp [strV]
theorem get_list (s : ByteArray) {k : Nat} (h : k < s.size) : s.data.toList[k]? = some (s[k]'h) := by
  rw [List.getElem?_eq_getElem (by simpa using h)]
  rfl
set_option maxRecDepth 100000 in
set_option maxHeartbeats 1000000 in
theorem leading_any (s : ByteArray) (c : UInt8) (w : World) (hs : s.size ≤ 100000) :
    Calls Tryz.prog 28 #[.string s, .int .u8 (c.toNat : Int)] w fun e w' => e = .returned (.tuple #[.int .i64 ((leadB s.data.toList c).1 : Int), strV (leadB s.data.toList c).2]) ∧ Below w.heap.size w w' := by
  have hlen : s.data.toList.length = s.size := by simp
  obtain ⟨L, hL⟩ : ∃ L, leadB s.data.toList c = L := ⟨_, rfl⟩
  rw [hL]
  have HL := Lib.hid hL
  clear hL
  go_enter Tryz.func28, Tryz.ntmps28
  go_wp2
  go_loopg [6] (s.size) (fun q v wr => ∃ k : Nat, k + q = s.size ∧ v = .int .i64 (k : Int) ∧ wr = w ∧ Hid (∀ j, j < k → s.data.toList[j]? = some c))
  case atStart => exact ⟨0, by omega, rfl, rfl, fun j hj => by omega⟩
  case round =>
    obtain ⟨k, hk, rfl, rfl, HJ⟩ := hrel
    by_cases hlt : k < s.size
    · by_cases hc : s[k] = c
      · have HK : Hid (∀ j, j < k + 1 → s.data.toList[j]? = some c) := fun j hj => by
          by_cases e : j = k
          · subst e; rw [get_list s hlt, hc]
          · exact HJ.out j (by omega)
        have hcn : ((s[k]).toNat : Int) = (c.toNat : Int) := by rw [hc]
        clear HJ
        go_wp2
        go_roundg (gk - 1)
        case measure => omega
        case rel => exact ⟨k + 1, by omega, by go_num, rfl, HK.out⟩
      · have hrun : runOf s.data.toList c = k := runOf_at (by omega) HJ.out (fun b hb => by rw [get_list s hlt] at hb; injection hb with hb; subst hb; exact hc)
        have hcn : ¬ ((s[k]).toNat : Int) = (c.toNat : Int) := fun e => hc (UInt8.toNat_inj.1 (by omega))
        have hcb : (((s[k]).toNat : Int) == (c.toNat : Int)) = false := beq_eq_false_iff_ne.2 hcn
        by_cases hbad : k < 1 ∨ 3 < k ∨ ¬ (s[k]).toNat = 32
        · have hres : leadB s.data.toList c = (0, []) := by
            unfold leadB
            rw [hrun, if_pos]
            rcases hbad with h | h | h
            · exact .inl h
            · exact .inr (.inl h)
            · refine .inr (.inr fun e => h ?_)
              rw [get_list s hlt] at e
              injection e with e
              rw [e]; rfl
          obtain rfl : L = (0, []) := HL.out.symm.trans hres
          clear HJ hlen hrun hc hres
          by_cases h1 : k < 1
          · go_wp2
            go_ret2
            exact ⟨rfl, Below.refl _ _⟩
          · by_cases h2 : 3 < k
            · go_wp2
              go_ret2
              exact ⟨rfl, Below.refl _ _⟩
            · have h3 : ¬ ((s[k]).toNat : Int) = 32 := by
                rcases hbad with h | h | h
                · exact absurd h h1
                · exact absurd h h2
                · omega
              have h4 : ¬ k = s.size := by omega
              have h3b : (((s[k]).toNat : Int) != 32) = true := by simpa using h3
              have h4b : ((k : Int) == (s.size : Int)) = false := beq_eq_false_iff_ne.2 (by omega)
              go_wp2
              go_ret2
              exact ⟨rfl, Below.refl _ _⟩
        · have h1 : ¬ k < 1 := fun h => hbad (.inl h)
          have h2 : ¬ 3 < k := fun h => hbad (.inr (.inl h))
          have h3 : (s[k]).toNat = 32 := Classical.byContradiction fun h => hbad (.inr (.inr h))
          have h3' : ((s[k]).toNat : Int) = 32 := by omega
          have h4 : ¬ k = s.size := by omega
          have h3b : (((s[k]).toNat : Int) != 32) = false := by simpa using h3'
          have h4b : ((k : Int) == (s.size : Int)) = false := beq_eq_false_iff_ne.2 (by omega)
          have hres : leadB s.data.toList c = (k, dropL (s.data.toList.drop k)) := by
            unfold leadB
            rw [hrun, if_neg]
            rintro (h | h | h)
            · exact h1 h
            · exact h2 h
            · refine h ?_
              rw [get_list s hlt]
              congr 1
              exact UInt8.toNat_inj.1 h3
          obtain rfl : L = (k, dropL (s.data.toList.drop k)) := HL.out.symm.trans hres
          have htl := strTrimL_any (s.extract k s.size) wr (by rw [ByteArray.size_extract]; omega)
          rw [extract_list, List.take_of_length_le (by rw [List.length_drop, hlen]; omega)] at htl
          clear HJ hlen hrun hc hbad hres
          go_wp2_with (go_at_call 37; refine htl.mono ?_; rintro e w2 ⟨rfl, hb2⟩)
          go_ret2
          exact ⟨rfl, hb2⟩
    · obtain rfl : k = s.size := by omega
      have hrun : runOf s.data.toList c = s.size := runOf_at (by omega) HJ.out (fun b hb => by rw [List.getElem?_eq_none (by omega)] at hb; cases hb)
      have hres : leadB s.data.toList c = (0, []) := by
        unfold leadB
        rw [hrun, if_pos]
        exact .inr (.inr (by rw [List.getElem?_eq_none (by omega)]; simp))
      obtain rfl : L = (0, []) := HL.out.symm.trans hres
      clear HJ hlen hrun hres
      by_cases h1 : s.size < 1
      · go_wp2
        go_ret2
        exact ⟨rfl, Below.refl _ _⟩
      · by_cases h2 : 3 < s.size
        · go_wp2
          go_ret2
          exact ⟨rfl, Below.refl _ _⟩
        · go_wp2
          go_ret2
          exact ⟨rfl, Below.refl _ _⟩
end Go.Proofs.YtcjmfjccjhdgjaaGreatDoor
namespace Go.Proofs.YtcjmfjccjhdgjaaGreatDoor
open Go.RowKit Go.Bd
theorem strV_data (l : Bs) : (⟨l.toArray⟩ : ByteArray).data.toList = l := by simp
theorem trim_size (s : ByteArray) : (trim s.data.toList).length ≤ s.size := by have := trim_le s.data.toList; rw [← size_list] at this; exact this
set_option maxRecDepth 100000 in
set_option maxHeartbeats 1000000 in
theorem item_any (s : ByteArray) (w : World) (hs : s.size ≤ 100000) :
    Calls Tryz.prog 17 #[.string s] w fun e w' => e = .returned (.tuple #[.int .i64 ((itemB s.data.toList).1 : Int), .bool (itemB s.data.toList).2.1, strV (itemB s.data.toList).2.2]) ∧ Below w.heap.size w w' := by
  have htr := strTrim_any s w (by omega)
  have hts := trim_size s
  have hl1 := fun w' => leading_any ⟨(trim s.data.toList).toArray⟩ 42 w' (by rw [size_mk]; omega)
  have hl2 := fun w' => leading_any ⟨(trim s.data.toList).toArray⟩ 46 w' (by rw [size_mk]; omega)
  rw [strV_data] at hl1 hl2
  obtain ⟨L, hL⟩ : ∃ L, itemB s.data.toList = L := ⟨_, rfl⟩
  rw [hL]
  have HL := Lib.hid hL
  unfold itemB at hL
  unfold strV at htr
  generalize hA : leadB (trim s.data.toList) 42 = A at hl1 hL
  generalize hC : leadB (trim s.data.toList) 46 = C at hl2 hL
  generalize (trim s.data.toList) = t at htr hl1 hl2 hts
  clear hA hC HL
  have HL := Lib.hid hL
  clear hL
  obtain ⟨a1, a2⟩ := A
  obtain ⟨c1, c2⟩ := C
  simp only at hl1 hl2
  have e42 : (((42 : UInt8).toNat : Nat) : Int) = 42 := rfl
  have e46 : (((46 : UInt8).toNat : Nat) : Int) = 46 := rfl
  rw [e42] at hl1
  rw [e46] at hl2
  clear e42 e46
  unfold strV at hl1 hl2
  by_cases h1 : 0 < a1
  · obtain rfl : L = (a1, false, a2) := by rw [← HL.out]; simp [h1]
    go_enter Tryz.func17, Tryz.ntmps17
    go_wp2_with (first
      | (go_at_call 29; refine htr.mono ?_; rintro e w1 ⟨rfl, hb1⟩)
      | (go_at_call 28; refine (hl1 _).mono ?_; rintro e w2 ⟨rfl, hb2⟩))
    (try simp only [Exit.inBlock, Exit.then]); refine bodyPost_ret (results_tmp3 rfl _ _ _) rfl ?_
    exact ⟨rfl, hb1.trans (hb2.mono hb1.size)⟩
  · by_cases h2 : 0 < c1
    · obtain rfl : L = (c1, true, c2) := by rw [← HL.out]; simp [h1, h2]
      go_enter Tryz.func17, Tryz.ntmps17
      go_wp2_with (first
        | (go_at_call 29; refine htr.mono ?_; rintro e w1 ⟨rfl, hb1⟩)
        | (go_at_call 28; refine (hl1 _).mono ?_; clear hl1; rintro e w2 ⟨rfl, hb2⟩)
        | (go_at_call 28; refine (hl2 _).mono ?_; rintro e w3 ⟨rfl, hb3⟩))
      (try simp only [Exit.inBlock, Exit.then]); refine bodyPost_ret (results_tmp3 rfl _ _ _) rfl ?_
      have e1 := hb1.trans (hb2.mono hb1.size)
      exact ⟨rfl, e1.trans (hb3.mono e1.size)⟩
    · obtain rfl : L = (0, false, []) := by rw [← HL.out]; simp [h1, h2]
      go_enter Tryz.func17, Tryz.ntmps17
      go_wp2_with (first
        | (go_at_call 29; refine htr.mono ?_; rintro e w1 ⟨rfl, hb1⟩)
        | (go_at_call 28; refine (hl1 _).mono ?_; clear hl1; rintro e w2 ⟨rfl, hb2⟩)
        | (go_at_call 28; refine (hl2 _).mono ?_; rintro e w3 ⟨rfl, hb3⟩))
      (try simp only [Exit.inBlock, Exit.then]); refine bodyPost_ret (results_tmp3 rfl _ _ _) rfl ?_
      have e1 := hb1.trans (hb2.mono hb1.size)
      exact ⟨rfl, e1.trans (hb3.mono e1.size)⟩
theorem counted_any (f t : ByteArray) (no : Int) (w : World) (hs : t.size ≤ 100000) :
    Calls Tryz.prog 21 #[.agg #[.string f, .int .i64 no, .string t]] w fun e w' => e = .returned (strV (trim t.data.toList)) ∧ Below w.heap.size w w' := by
  have htr := fun w => strTrim_any t w (by omega)
  go_enter Tryz.func21, Tryz.ntmps21
  go_wp2_with (go_at_call 29; refine (htr _).mono ?_; rintro e w1 ⟨rfl, hb1⟩)
  go_ret
  exact ⟨rfl, ((Below.refl _ w).alloc (Nat.le_refl _) _).trans (hb1.mono (by simp))⟩
end Go.Proofs.YtcjmfjccjhdgjaaGreatDoor
namespace Go.Bd
theorem lastAny_lt {g : Bs} : ∀ {l : Bs}, lastAny l g < (l.length : Int)
  | [] => by simp [lastAny]
  | b :: l => by
    have ih := lastAny_lt (g := g) (l := l)
    rw [lastAny, List.length_cons]
    split
    · omega
    · split <;> omega
theorem hasPrefix_one (l : Bs) (c : UInt8) (h0 : c ≠ 0) : Lib.hasPrefix l [c] = decide (l.getD 0 0 = c) := by
  cases l with
  | nil => simp [Lib.hasPrefix, List.isPrefixOf, Ne.symm h0]
  | cons a l =>
    simp only [Lib.hasPrefix, List.isPrefixOf, Bool.and_true, List.getD_cons_zero]
    rw [Bool.eq_iff_iff, beq_iff_eq, decide_eq_true_iff]
    exact eq_comm
end Go.Bd
namespace Go.Proofs.YtcjmfjccjhdgjaaGreatDoor
open Go.RowKit Go.Bd
theorem blanks_ascii : ∀ b ∈ (⟨#[32, 9]⟩ : ByteArray).data.toList, b.toNat < 128 := by decide
set_option maxRecDepth 100000 in
set_option maxHeartbeats 1000000 in
theorem title_any (s : ByteArray) (w : World) (hs : s.size ≤ 100000) (hT : Lib.Utf8Tabs 1 2 w) :
    Calls Tryz.prog 30 #[.string s] w fun e w' => e = .returned (.tuple #[strV (titleB s.data.toList).1, strV (titleB s.data.toList).2.1, strV (titleB s.data.toList).2.2]) ∧ Below w.heap.size w w' := by
  have cl := lastIndexAny_any s ⟨#[32, 9]⟩ w blanks_ascii (by decide) (by decide) (by omega) hT
  have e9 : (⟨#[32, 9]⟩ : ByteArray).data.toList = [32, 9] := rfl
  rw [e9] at cl
  have hlt := lastAny_lt (g := [32, 9]) (l := s.data.toList)
  have hlen : s.data.toList.length = s.size := by simp
  obtain ⟨L, hL⟩ : ∃ L, titleB s.data.toList = L := ⟨_, rfl⟩
  rw [hL]
  unfold titleB at hL
  have hsv : strV s.data.toList = .string s := (strV_of rfl).symm
  clear e9 hT
  generalize lastAny s.data.toList [32, 9] = i at cl hlt hL
  by_cases hi : i < 0
  · rw [if_pos (.inl hi)] at hL
    subst hL
    simp only [hsv]
    go_enter Tryz.func30, Tryz.ntmps30
    go_wp2_with (go_at_call 53; refine cl.mono ?_; rintro e w1 ⟨rfl, hb1⟩)
    (try simp only [Exit.inBlock, Exit.then])
    refine bodyPost_ret (results_tmp3 rfl _ _ _) rfl ?_
    exact ⟨rfl, hb1⟩
  · obtain ⟨k, rfl⟩ : ∃ k : Nat, i = k := ⟨i.toNat, by omega⟩
    rw [hlen] at hlt
    simp only [Int.toNat_natCast] at hL
    have hks : k + 1 ≤ s.size := by omega
    have hcp := fun w => Tryz.strings_HasPrefix (s.extract (k + 1) s.size) ⟨#[35]⟩ w
    have hwd : (s.extract (k + 1) s.size).data.toList = s.data.toList.drop (k + 1) := by
      rw [extract_list, List.take_of_length_le (by rw [List.length_drop, hlen]; omega)]
    have hws : (s.extract (k + 1) s.size).size = s.size - (k + 1) := by rw [ByteArray.size_extract]; omega
    have e35 : (⟨#[35]⟩ : ByteArray).data.toList = [35] := rfl
    rw [e35, hwd] at hcp
    simp only [hasPrefix_one _ 35 (by decide)] at hcp
    by_cases hp : (s.data.toList.drop (k + 1)).getD 0 0 = 35
    · simp only [hp, decide_true] at hcp
      have hw1 : 1 ≤ (s.extract (k + 1) s.size).size := by
        rw [hws]
        rcases Nat.lt_or_ge (k + 1) s.size with h | h
        · omega
        · rw [List.drop_eq_nil_of_le (by omega)] at hp
          exact absurd hp (by decide)
      have hcn := fun w => name_any ((s.extract (k + 1) s.size).extract 1 (s.size - (k + 1))) w (by rw [ByteArray.size_extract]; omega)
      have hnd : ((s.extract (k + 1) s.size).extract 1 (s.size - (k + 1))).data.toList = (s.data.toList.drop (k + 1)).drop 1 := by
        rw [extract_list, hwd, List.take_of_length_le (by rw [List.length_drop, List.length_drop, hlen]; omega)]
      rw [hnd] at hcn
      rw [if_neg (by rintro (h | h); exact absurd h (by omega); exact h hp)] at hL
      have hwv : Value.string (s.extract (k + 1) s.size) = strV (s.data.toList.drop (k + 1)) := strV_of hwd
      have hnv : Value.string ((s.extract (k + 1) s.size).extract 1 (s.size - (k + 1))) = strV ((s.data.toList.drop (k + 1)).drop 1) := strV_of hnd
      have HV := Lib.hid (And.intro hwv (And.intro hnv hsv))
      clear hwv hnv hsv
      by_cases hn : nameB ((s.data.toList.drop (k + 1)).drop 1) = true
      · rw [hn] at hcn
        rw [if_pos hn] at hL
        have htr := fun w => strTrimR_any (s.extract 0 k) w (by rw [ByteArray.size_extract]; omega)
        rw [extract_list, List.drop_zero, Nat.sub_zero] at htr
        subst hL
        clear hwd hnd hn hp
        go_enter Tryz.func30, Tryz.ntmps30
        go_wp2_with (first
          | (go_at_call 53; refine cl.mono ?_; rintro e w1 ⟨rfl, hb1⟩)
          | (go_at_call 40; refine (hcp _).mono ?_; rintro e w2 ⟨rfl, rfl⟩)
          | (go_at_call 54; refine (hcn _).mono ?_; rintro e w3 ⟨rfl, rfl⟩))
        go_region_with (go_at_call 55; refine (htr _).mono ?_; rintro e w4 ⟨rfl, hb4⟩)
        all_goals go_wp2
        all_goals ((try simp only [Exit.inBlock, Exit.then]); refine bodyPost_ret (results_tmp3 rfl _ _ _) rfl ?_)
        all_goals exact ⟨by rw [← HV.out.2.1]; rfl, hb1.drew.trans (hb4.mono hb1.size)⟩
      · have hn' : nameB ((s.data.toList.drop (k + 1)).drop 1) = false := by simpa using hn
        rw [hn'] at hcn
        rw [if_neg hn] at hL
        subst hL
        clear hwd hnd hn hn' hp
        go_enter Tryz.func30, Tryz.ntmps30
        go_wp2_with (first
          | (go_at_call 53; refine cl.mono ?_; rintro e w1 ⟨rfl, hb1⟩)
          | (go_at_call 40; refine (hcp _).mono ?_; rintro e w2 ⟨rfl, rfl⟩)
          | (go_at_call 54; refine (hcn _).mono ?_; rintro e w3 ⟨rfl, rfl⟩))
        (try simp only [Exit.inBlock, Exit.then])
        refine bodyPost_ret (results_tmp3 rfl _ _ _) rfl ?_
        exact ⟨by rw [← HV.out.1, HV.out.2.2]; rfl, hb1⟩
    · simp only [hp, decide_false] at hcp
      rw [if_pos (.inr hp)] at hL
      subst hL
      simp only [hsv]
      clear hwd
      go_enter Tryz.func30, Tryz.ntmps30
      go_wp2_with (first
        | (go_at_call 53; refine cl.mono ?_; rintro e w1 ⟨rfl, hb1⟩)
        | (go_at_call 40; refine (hcp _).mono ?_; rintro e w2 ⟨rfl, rfl⟩))
      (try simp only [Exit.inBlock, Exit.then])
      refine bodyPost_ret (results_tmp3 rfl _ _ _) rfl ?_
      exact ⟨rfl, hb1⟩
end Go.Proofs.YtcjmfjccjhdgjaaGreatDoor
namespace Go.Bd
theorem indexAny_lt {g : Bs} : ∀ {l : Bs}, Lib.indexAny l g < (l.length : Int)
  | [] => by simp [Lib.indexAny]
  | b :: l => by
    have ih := indexAny_lt (g := g) (l := l)
    rw [Lib.indexAny, List.length_cons]
    split
    · omega
    · split <;> omega
end Go.Bd
namespace Go.Proofs.YtcjmfjccjhdgjaaGreatDoor
open Go.RowKit Go.Bd
def commandV (l : Bs) : Value := match commandB l with | none => .tuple #[strV [], strV [], .bool false] | some (a, b) => .tuple #[strV a, strV b, .bool true]
theorem getD_get2 {s : ByteArray} {m : Nat} (h : m < s.size) : s.data.toList.getD m 0 = s[m] := getD_get h
theorem bits_or (c : UInt8) : bits BinOp.or IntKind.u8 (c.toNat : Int) 32 = ((c ||| 32).toNat : Int) := by
  have h : ∀ n : Fin 256, bits BinOp.or IntKind.u8 (n.1 : Int) 32 = ((UInt8.ofNat n.1 ||| 32).toNat : Int) := by decide +kernel
  have h2 := h ⟨c.toNat, c.toNat_lt⟩
  simp only [UInt8.ofNat_toNat] at h2
  exact h2
set_option maxRecDepth 100000 in
set_option maxHeartbeats 1000000 in
theorem command_any (s : ByteArray) (w : World) (hs : s.size ≤ 100000) :
    Calls Tryz.prog 22 #[.string s] w fun e w' => e = .returned (commandV s.data.toList) ∧ Below w.heap.size w w' := by
  have hlen : s.data.toList.length = s.size := by simp
  obtain ⟨L, hL⟩ : ∃ L, commandV s.data.toList = L := ⟨_, rfl⟩
  rw [hL]
  unfold commandV at hL
  by_cases h2 : s.size < 2
  · have e : commandB s.data.toList = none := by unfold commandB; rw [if_pos (.inl (by omega))]
    rw [e] at hL
    subst hL
    go_enter Tryz.func22, Tryz.ntmps22
    go_wp2
    (try simp only [Exit.inBlock, Exit.then])
    refine bodyPost_ret (results_tmp3 rfl _ _ _) rfl ?_
    exact ⟨rfl, Below.refl _ _⟩
  · by_cases h33 : ¬ (s[0]'(by omega)).toNat = 33
    · have e : commandB s.data.toList = none := by
        unfold commandB
        rw [if_pos (.inr (.inl (by rw [getD_get2 (by omega)]; exact fun h => h33 (by rw [h]; rfl))))]
      rw [e] at hL
      subst hL
      have hb : (((s[0]'(by omega)).toNat : Int) != 33) = true := by simpa using (show ¬ ((s[0]'(by omega)).toNat : Int) = 33 by omega)
      go_enter Tryz.func22, Tryz.ntmps22
      go_wp2
      (try simp only [Exit.inBlock, Exit.then])
      refine bodyPost_ret (results_tmp3 rfl _ _ _) rfl ?_
      exact ⟨rfl, Below.refl _ _⟩
    · have h33' : (s[0]'(by omega)).toNat = 33 := Classical.byContradiction h33
      have hb : (((s[0]'(by omega)).toNat : Int) != 33) = false := by simpa using (show ((s[0]'(by omega)).toNat : Int) = 33 by omega)
      have hbo := bits_or (s[1]'(by omega))
      have hg1 : s.data.toList.getD 1 0 = s[1]'(by omega) := getD_get2 (by omega)
      have hg0 : s.data.toList.getD 0 0 = 33 := by
        rw [getD_get2 (by omega)]
        exact UInt8.toNat_inj.1 h33'
      by_cases hl : (s.data.toList.getD 1 0 ||| 32).toNat < 97 ∨ 122 < (s.data.toList.getD 1 0 ||| 32).toNat
      · have e : commandB s.data.toList = none := by unfold commandB; rw [if_pos (.inr (.inr hl))]
        rw [e] at hL
        subst hL
        rw [hg1] at hl
        generalize (s[1]'(by omega) ||| 32).toNat = d at hbo hl
        clear hg1 hg0
        by_cases h97 : d < 97
        · go_enter Tryz.func22, Tryz.ntmps22
          go_wp2
          (try simp only [Exit.inBlock, Exit.then])
          refine bodyPost_ret (results_tmp3 rfl _ _ _) rfl ?_
          exact ⟨rfl, Below.refl _ _⟩
        · have h122 : 122 < d := by omega
          go_enter Tryz.func22, Tryz.ntmps22
          go_wp2
          (try simp only [Exit.inBlock, Exit.then])
          refine bodyPost_ret (results_tmp3 rfl _ _ _) rfl ?_
          exact ⟨rfl, Below.refl _ _⟩
      · have hci : ¬ (s.data.toList.length < 2 ∨ s.data.toList.getD 0 0 ≠ 33 ∨ (s.data.toList.getD 1 0 ||| 32).toNat < 97 ∨ 122 < (s.data.toList.getD 1 0 ||| 32).toNat) := by
          rintro (h | h | h)
          · omega
          · exact h hg0
          · exact hl h
        have hx := indexAnyX_any (s.extract 1 s.size) ⟨#[32, 9]⟩ w blanks_ascii (by decide) (by decide) (by rw [ByteArray.size_extract]; omega)
        have e9 : (⟨#[32, 9]⟩ : ByteArray).data.toList = [32, 9] := rfl
        have hwd : (s.extract 1 s.size).data.toList = s.data.toList.drop 1 := by
          rw [extract_list, List.take_of_length_le (by rw [List.length_drop, hlen]; omega)]
        rw [e9, hwd] at hx
        unfold commandB at hL
        rw [if_neg hci] at hL
        rw [hg1] at hl
        have hs1 : (s.extract 1 s.size).size = s.size - 1 := by rw [ByteArray.size_extract]; omega
        have hilt : Lib.indexAny (s.data.toList.drop 1) [32, 9] < (s.size : Int) - 1 + 0 ∨ Lib.indexAny (s.data.toList.drop 1) [32, 9] < 0 := by
          have := indexAny_lt (g := [32, 9]) (l := s.data.toList.drop 1)
          rw [List.length_drop, hlen] at this
          omega
        have hwv : Value.string (s.extract 1 s.size) = strV (s.data.toList.drop 1) := strV_of hwd
        have HV := Lib.hid hwv
        generalize (s[1]'(by omega) ||| 32).toNat = d at hbo hl
        have hl97 : 97 ≤ d := by omega
        have hl122 : d ≤ 122 := by omega
        clear hg1 hg0 hci e9 hl hwv
        by_cases hi : 0 ≤ Lib.indexAny (s.data.toList.drop 1) [32, 9]
        · rw [if_pos hi] at hL
          obtain ⟨k, hk⟩ : ∃ k : Nat, Lib.indexAny (s.data.toList.drop 1) [32, 9] = k := ⟨_, (Int.toNat_of_nonneg hi).symm⟩
          rw [hk] at hx hL hilt
          simp only [Int.toNat_natCast] at hL
          have hks : k < s.size - 1 := by omega
          have htl := fun w => strTrimL_any ((s.extract 1 s.size).extract k (s.size - 1)) w (by rw [ByteArray.size_extract]; omega)
          have hed : ((s.extract 1 s.size).extract k (s.size - 1)).data.toList = (s.data.toList.drop 1).drop k := by
            rw [extract_list, hwd, List.take_of_length_le (by rw [List.length_drop, List.length_drop, hlen]; omega)]
          have hfd : Value.string ((s.extract 1 s.size).extract 0 k) = strV ((s.data.toList.drop 1).take k) := strV_of (by rw [extract_list, hwd, List.drop_zero, Nat.sub_zero])
          have HFD := Lib.hid hfd
          rw [hed] at htl
          subst hL
          clear hwd hed hk hi hilt hfd
          go_enter Tryz.func22, Tryz.ntmps22
          go_wp2_with (go_at_call 36; refine hx.mono ?_; rintro e w1 ⟨rfl, hb1⟩)
          go_region_with (go_at_call 37; refine (htl _).mono ?_; rintro e w4 ⟨rfl, hb4⟩)
          all_goals go_wp2
          all_goals ((try simp only [Exit.inBlock, Exit.then]); refine bodyPost_ret (results_tmp3 rfl _ _ _) rfl ?_)
          all_goals exact ⟨by rw [← HFD.out, List.drop_drop, Nat.add_comm 1 k]; rfl, hb1.drew.trans (hb4.mono hb1.size)⟩
        · have hin : Lib.indexAny (s.data.toList.drop 1) [32, 9] < 0 := by omega
          rw [if_neg hi] at hL
          generalize Lib.indexAny (s.data.toList.drop 1) [32, 9] = i at hx hin
          subst hL
          clear hwd hi hilt
          go_enter Tryz.func22, Tryz.ntmps22
          go_wp2_with (go_at_call 36; refine hx.mono ?_; rintro e w1 ⟨rfl, hb1⟩)
          (try simp only [Exit.inBlock, Exit.then])
          refine bodyPost_ret (results_tmp3 rfl _ _ _) rfl ?_
          exact ⟨by rw [← HV.out]; rfl, hb1⟩
set_option maxRecDepth 100000 in
set_option maxHeartbeats 1000000 in
theorem head_any (s : ByteArray) (w : World) (hs : s.size ≤ 100000) (hT : Lib.Utf8Tabs 1 2 w) :
    Calls Tryz.prog 16 #[.string s] w fun e w' => e = .returned (.tuple #[.int .i64 ((headB s.data.toList).1 : Int), strV (headB s.data.toList).2.1, strV (headB s.data.toList).2.2]) ∧ Below w.heap.size w w' := by
  have htr := strTrim_any s w (by omega)
  have hts := trim_size s
  have hl1 := fun w' => leading_any ⟨(trim s.data.toList).toArray⟩ 61 w' (by rw [size_mk]; omega)
  rw [strV_data] at hl1
  have hll := lead_le (trim s.data.toList) 61
  have hti := fun w' h => title_any ⟨((leadB (trim s.data.toList) 61).2).toArray⟩ w' (by rw [size_mk]; omega) h
  rw [strV_data] at hti
  obtain ⟨L, hL⟩ : ∃ L, headB s.data.toList = L := ⟨_, rfl⟩
  rw [hL]
  unfold headB at hL
  unfold strV at htr
  have e61 : (((61 : UInt8).toNat : Nat) : Int) = 61 := rfl
  rw [e61] at hl1
  obtain ⟨T, hT0⟩ : ∃ T, titleB (leadB (trim s.data.toList) 61).2 = T := ⟨_, rfl⟩
  rw [hT0] at hti hL
  unfold strV at hl1
  have HT := Lib.hid hT
  clear e61 hT0 hll hT
  generalize leadB (trim s.data.toList) 61 = A at hl1 hL hti
  generalize (trim s.data.toList) = t at htr hl1 hts
  by_cases h0 : A.1 = 0
  · rw [if_pos h0] at hL
    subst hL
    rw [h0] at hl1
    go_enter Tryz.func16, Tryz.ntmps16
    go_wp2_with (first
      | (go_at_call 29; refine htr.mono ?_; rintro e w1 ⟨rfl, hb1⟩)
      | (go_at_call 28; refine (hl1 _).mono ?_; rintro e w2 ⟨rfl, hb2⟩))
    (try simp only [Exit.inBlock, Exit.then])
    refine bodyPost_ret (results_tmp3 rfl _ _ _) rfl ?_
    exact ⟨rfl, hb1.trans (hb2.mono hb1.size)⟩
  · rw [if_neg h0] at hL
    subst hL
    go_enter Tryz.func16, Tryz.ntmps16
    go_wp2_with (first
      | (go_at_call 29; refine htr.mono ?_; rintro e w1 ⟨rfl, hb1⟩)
      | (go_at_call 28; refine (hl1 _).mono ?_; rintro e w2 ⟨rfl, hb2⟩; have hti2 := hti w2 (Utf8Tabs_below HT.out (hb1.trans (hb2.mono hb1.size))))
      | (go_at_call 30; refine hti2.mono ?_; rintro e w3 ⟨rfl, hb3⟩))
    (try simp only [Exit.inBlock, Exit.then])
    refine bodyPost_ret (results_tmp3 rfl _ _ _) rfl ?_
    have e1 := hb1.trans (hb2.mono hb1.size)
    exact ⟨rfl, e1.trans (hb3.mono e1.size)⟩
set_option maxRecDepth 100000 in
set_option maxHeartbeats 2000000 in
theorem plain_any (s : ByteArray) (w : World) (hs : s.size ≤ 100000) :
    Calls Tryz.prog 68 #[.string s] w fun e w' => e = .returned (.bool (plainL s.data.toList)) ∧ Below w.heap.size w w' := by
  have hcp := Tryz.strings_HasPrefix s ⟨#[124, 61, 61, 61]⟩ w
  have hco := fun w => command_any s w hs
  have hl1 := fun w => leading_any s 61 w hs
  have hit := fun w => item_any s w hs
  have eb : (⟨#[124, 61, 61, 61]⟩ : ByteArray).data.toList = barsL := rfl
  rw [eb] at hcp
  have e61 : (((61 : UInt8).toNat : Nat) : Int) = 61 := rfl
  have h0e : (s = ⟨#[]⟩) = (s.data.toList = []) := by
    rw [eq_iff_iff]
    constructor
    · rintro rfl; rfl
    · intro h; cases s; simp_all
  have h4e : (s = ⟨#[45, 45, 45, 45]⟩) = (s.data.toList = fenceL) := by
    rw [eq_iff_iff]
    constructor
    · rintro rfl; rfl
    · intro h
      cases s with
      | mk d => exact congrArg ByteArray.mk (Array.toList_inj.1 h)
  obtain ⟨L, hL⟩ : ∃ L, plainL s.data.toList = L := ⟨_, rfl⟩
  rw [hL]
  unfold plainL at hL
  rw [e61] at hl1
  unfold commandV at hco
  generalize Lib.hasPrefix s.data.toList barsL = hp at hcp hL
  generalize commandB s.data.toList = cm at hco hL
  generalize leadB s.data.toList 61 = A at hl1 hL
  generalize itemB s.data.toList = I at hit hL
  have E0 := Lib.hid h0e
  have E4 := Lib.hid h4e
  have HL := Lib.hid hL
  clear h0e h4e hL eb e61
  by_cases c0 : s = ⟨#[]⟩
  · have c0' : s.data.toList = [] := E0.out ▸ c0
    obtain rfl : L = false := by rw [← HL.out, decide_eq_true c0']; simp
    go_enter Tryz.func68, Tryz.ntmps68
    go_wp2_with (go_at_call 40; refine hcp.mono ?_; rintro e w1 ⟨rfl, rfl⟩)
    go_ret
    exact ⟨rfl, Below.refl _ _⟩
  · have c0' : ¬ s.data.toList = [] := fun h => c0 (E0.out.symm ▸ h)
    by_cases c4 : s = ⟨#[45, 45, 45, 45]⟩
    · have c4' : s.data.toList = fenceL := E4.out ▸ c4
      obtain rfl : L = false := by rw [← HL.out, decide_eq_true c4']; simp
      go_enter Tryz.func68, Tryz.ntmps68
      go_wp2_with (go_at_call 40; refine hcp.mono ?_; rintro e w1 ⟨rfl, rfl⟩)
      go_ret
      exact ⟨rfl, Below.refl _ _⟩
    · have c4' : ¬ s.data.toList = fenceL := fun h => c4 (E4.out.symm ▸ h)
      have HL2 := HL.out
      rw [decide_eq_false c0', decide_eq_false c4'] at HL2
      have n0 : (s.toList == ([] : Bs)) = false := by rw [ByteArray.toList_eq]; exact beq_eq_false_iff_ne.2 c0'
      have n4 : (s.toList == ([45, 45, 45, 45] : Bs)) = false := by rw [ByteArray.toList_eq]; exact beq_eq_false_iff_ne.2 c4'
      clear c0' c4' HL E0 E4
      cases hp with
      | true =>
        obtain rfl : L = false := by rw [← HL2]; simp
        go_enter Tryz.func68, Tryz.ntmps68
        go_wp2_with (go_at_call 40; refine hcp.mono ?_; rintro e w1 ⟨rfl, rfl⟩)
        go_ret
        exact ⟨rfl, Below.refl _ _⟩
      | false =>
        cases cm with
        | some ab =>
          obtain rfl : L = false := by rw [← HL2]; simp
          go_enter Tryz.func68, Tryz.ntmps68
          go_wp2_with (first
            | (go_at_call 40; refine hcp.mono ?_; rintro e w1 ⟨rfl, rfl⟩)
            | (go_at_call 22; refine (hco _).mono ?_; rintro e w2 ⟨rfl, hb2⟩))
          go_ret
          exact ⟨rfl, hb2⟩
        | none =>
          obtain rfl : L = (decide (A.1 = 0) && decide (I.1 = 0)) := by rw [← HL2]; simp
          by_cases hA : A.1 = 0
          · have hz : decide (A.1 = 0) = true := decide_eq_true hA
            rw [hz, Bool.true_and]
            rw [hA] at hl1
            by_cases hI : I.1 = 0
            · rw [hI] at hit ⊢
              go_enter Tryz.func68, Tryz.ntmps68
              go_wp2_with (first
                | (go_at_call 40; refine hcp.mono ?_; rintro e w1 ⟨rfl, rfl⟩)
                | (go_at_call 22; refine (hco _).mono ?_; rintro e w2 ⟨rfl, hb2⟩)
                | (go_at_call 28; refine (hl1 _).mono ?_; rintro e w3 ⟨rfl, hb3⟩)
                | (go_at_call 17; refine (hit _).mono ?_; rintro e w4 ⟨rfl, hb4⟩))
              go_ret
              have e1 := hb2.trans (hb3.mono hb2.size)
              exact ⟨rfl, e1.trans (hb4.mono e1.size)⟩
            · rw [decide_eq_false hI]
              have hI' : ¬ (I.1 : Int) = 0 := by omega
              go_enter Tryz.func68, Tryz.ntmps68
              go_wp2_with (first
                | (go_at_call 40; refine hcp.mono ?_; rintro e w1 ⟨rfl, rfl⟩)
                | (go_at_call 22; refine (hco _).mono ?_; rintro e w2 ⟨rfl, hb2⟩)
                | (go_at_call 28; refine (hl1 _).mono ?_; rintro e w3 ⟨rfl, hb3⟩)
                | (go_at_call 17; refine (hit _).mono ?_; rintro e w4 ⟨rfl, hb4⟩))
              go_ret
              have e1 := hb2.trans (hb3.mono hb2.size)
              exact ⟨by simp [hI], e1.trans (hb4.mono e1.size)⟩
          · have hz : decide (A.1 = 0) = false := decide_eq_false hA
            rw [hz, Bool.false_and]
            have hA' : ¬ (A.1 : Int) = 0 := by omega
            go_enter Tryz.func68, Tryz.ntmps68
            go_wp2_with (first
              | (go_at_call 40; refine hcp.mono ?_; rintro e w1 ⟨rfl, rfl⟩)
              | (go_at_call 22; refine (hco _).mono ?_; rintro e w2 ⟨rfl, hb2⟩)
              | (go_at_call 28; refine (hl1 _).mono ?_; rintro e w3 ⟨rfl, hb3⟩)
              | (go_at_call 17; refine (hit _).mono ?_; rintro e w4 ⟨rfl, hb4⟩))
            go_ret
            have e1 := hb2.trans (hb3.mono hb2.size)
            exact ⟨by simp [hA], e1.trans (hb4.mono e1.size)⟩
end Go.Proofs.YtcjmfjccjhdgjaaGreatDoor
namespace Go.Bd
open Go.RowKit
structure Ln where
  file : ByteArray
  no : Int
  text : ByteArray
structure Dg where
  file : ByteArray
  line : Int
  fault : Nat
  text : ByteArray
structure Bl where
  kind : Nat
  level : Nat
  ordered : Bool
  label : ByteArray
  text : ByteArray
  spans : List Sp
  rows : List (List (List Sp))
  file : ByteArray
  line : Int
def lnCells (x : Ln) : List Value := [.string x.file, .int .i64 x.no, .string x.text]
def dgCells (d : Dg) : List Value := [.string d.file, .int .i64 d.line, .int .i64 (d.fault : Int), .string d.text]
def blCells (x : Bl) (kv : Value × Value) : List Value := [.int .u8 (x.kind : Int), .int .i64 (x.level : Int), .bool x.ordered, .string x.label, .string x.text, kv.1, kv.2, .string x.file, .int .i64 x.line]
def rowD : List Dg → List Value
  | [] => []
  | d :: l => dgCells d ++ rowD l
def rowBl : List Bl → List (Value × Value) → List Value
  | x :: l, kv :: kvs => blCells x kv ++ rowBl l kvs
  | _, _ => []
theorem rowD_length : ∀ l : List Dg, (rowD l).length = l.length * 4
  | [] => rfl
  | d :: l => by rw [rowD, List.length_append, rowD_length l, List.length_cons]; simp [dgCells]; omega
theorem rowD_append : ∀ a b : List Dg, rowD (a ++ b) = rowD a ++ rowD b
  | [], _ => rfl
  | d :: a, b => by simp only [List.cons_append, rowD, rowD_append a b, List.append_assoc]
theorem rowBl_length : ∀ {l : List Bl} {kvs : List (Value × Value)}, kvs.length = l.length → (rowBl l kvs).length = l.length * 9
  | [], _, _ => by simp [rowBl]
  | x :: l, [], h => by simp at h
  | x :: l, kv :: kvs, h => by
    rw [rowBl, List.length_append, rowBl_length (l := l) (kvs := kvs) (by simpa using h), List.length_cons]
    simp [blCells]
    omega
theorem rowBl_snoc : ∀ {l : List Bl} {kvs : List (Value × Value)} (x : Bl) (kv : Value × Value), kvs.length = l.length → rowBl (l ++ [x]) (kvs ++ [kv]) = rowBl l kvs ++ blCells x kv
  | [], [], x, kv, _ => by simp [rowBl]
  | [], _ :: _, _, _, h => by simp at h
  | y :: l, [], _, _, h => by simp at h
  | y :: l, ku :: kvs, x, kv, h => by
    simp only [List.cons_append, rowBl, List.append_assoc]
    rw [rowBl_snoc x kv (by simpa using h)]
def LinesAt (w : World) (L : Nat → Prop) (v : Value) (ls : List Ln) : Prop :=
  ∃ A c, v = .slice A ls.length c ∧ ls.length ≤ c ∧ (ls ≠ [] → ∃ b off, A = some ⟨b, off, none⟩ ∧ L b ∧ ∀ (j : Nat) x, ls[j]? = some x → ∀ (i : Nat) u, (lnCells x)[i]? = some u → w.cell? ⟨b, off + j * 3 + i, none⟩ = some u)
theorem LinesAt.chg {w w' : World} {L S : Nat → Prop} {v : Value} {ls : List Ln} (h : LinesAt w L v ls) (hc : Chg w w' S) (hS : ∀ k, L k → ¬ S k) : LinesAt w' L v ls := by
  obtain ⟨A, c, h1, h2, h3⟩ := h
  refine ⟨A, c, h1, h2, fun hn => ?_⟩
  obtain ⟨b, off, h4, h5, h6⟩ := h3 hn
  exact ⟨b, off, h4, h5, fun j x hj i u hu => hc.cell (p := ⟨b, off + j * 3 + i, none⟩) (hS b h5) (h6 j x hj i u hu)⟩
def tR : TypeId := 58
def tBl : TypeId := 35
def tDg : TypeId := 38
structure Rdr (w : World) (O F : Nat → Prop) (rb : Nat) (lv : Value) (pos : Nat) (bv : Value) (bs : List Bl) (dv : Value) (ds : List Dg) : Prop where
  hold : Holds w rb tR #[lv, .int .i64 (pos : Int), bv, dv]
  bl : ∃ kvs : List (Value × Value), kvs.length = bs.length ∧ w.ownsRow 0 tBl 9 bv bs.length (rowBl bs kvs) ∧ ∀ (j : Nat) x kv, bs[j]? = some x → kvs[j]? = some kv → Forest w F kv.1 x.spans ∧ RowsF w F kv.2 x.rows
  dg : w.ownsRow 0 tDg 4 dv ds.length (rowD ds)
  oR : O rb
  oB : ∀ k, bv.ownBlock = some k → O k ∧ k ≠ rb
  oD : ∀ k, dv.ownBlock = some k → O k ∧ k ≠ rb ∧ bv.ownBlock ≠ some k
  off : ∀ k, F k → ¬ O k
  ltO : ∀ k, O k → k < w.heap.size
  ltF : ∀ k, F k → k < w.heap.size
structure Turn (w w' : World) (O F O' F' : Nat → Prop) : Prop where
  chg : Chg w w' O
  inO : ∀ k, O' k → O k ∨ w.heap.size ≤ k
  inF : ∀ k, F' k → F k ∨ w.heap.size ≤ k
  moF : ∀ k, F k → F' k
theorem Turn.refl (w : World) (O F : Nat → Prop) : Turn w w O F O F := ⟨Chg.refl _ _, fun _ h => .inl h, fun _ h => .inl h, fun _ h => h⟩
theorem Turn.trans {w w1 w2 : World} {O F O1 F1 O2 F2 : Nat → Prop} (h : Turn w w1 O F O1 F1) (k : Turn w1 w2 O1 F1 O2 F2) : Turn w w2 O F O2 F2 := by
  have hs := h.chg.size
  refine ⟨h.chg.trans k.chg (fun b hb hO => ?_), fun b hb => ?_, fun b hb => ?_, fun b hb => k.moF b (h.moF b hb)⟩
  · rcases h.inO b hO with h1 | h1
    · exact h1
    · omega
  · rcases k.inO b hb with h1 | h1
    · exact h.inO b h1
    · exact .inr (by omega)
  · rcases k.inF b hb with h1 | h1
    · exact h.inF b h1
    · exact .inr (by omega)
section
variable {w w' : World} {O F O' F' S : Nat → Prop} {rb : Nat} {lv : Value} {pos : Nat} {bv : Value} {bs : List Bl} {dv : Value} {ds : List Dg}
theorem Rdr.chg (h : Rdr w O F rb lv pos bv bs dv ds) (hc : Chg w w' S) (hO : ∀ k, O k → ¬ S k) (hF : ∀ k, F k → ¬ S k) : Rdr w' O F rb lv pos bv bs dv ds := by
  obtain ⟨kvs, h1, h2, h3⟩ := h.bl
  exact ⟨hc.holds (hO _ h.oR) h.hold, ⟨kvs, h1, hc.owns h2 (fun k hk => hO k (h.oB k hk).1), fun j x kv hx hk => ⟨(h3 j x kv hx hk).1.chg hc (fun _ h => h) hF, RowsF.stays.go (h3 j x kv hx hk).2 hc (fun _ h => h) hF⟩⟩,
    hc.owns h.dg (fun k hk => hO k (h.oD k hk).1), h.oR, h.oB, h.oD, h.off, fun k hk => Nat.lt_of_lt_of_le (h.ltO k hk) hc.size, fun k hk => Nat.lt_of_lt_of_le (h.ltF k hk) hc.size⟩
theorem Rdr.below (h : Rdr w O F rb lv pos bv bs dv ds) (hb : Below w.heap.size w w') : Rdr w' O F rb lv pos bv bs dv ds := h.chg (Chg.below hb (fun _ => False)) (fun _ _ h => h) (fun _ _ h => h)
theorem Rdr.more (h : Rdr w O F rb lv pos bv bs dv ds) (hF : ∀ k, F k → F' k) (ho : ∀ k, F' k → ¬ O k) (hl : ∀ k, F' k → k < w.heap.size) : Rdr w O F' rb lv pos bv bs dv ds := by
  obtain ⟨kvs, h1, h2, h3⟩ := h.bl
  exact ⟨h.hold, ⟨kvs, h1, h2, fun j x kv hx hk => ⟨(h3 j x kv hx hk).1.chg (Chg.refl w (fun _ => False)) hF (fun _ _ h => h), RowsF.stays.go (h3 j x kv hx hk).2 (Chg.refl w (fun _ => False)) hF (fun _ _ h => h)⟩⟩, h.dg, h.oR, h.oB, h.oD, ho, h.ltO, hl⟩
theorem Rdr.told (h : Rdr w O F rb lv pos bv bs dv ds) {dv' : Value} {d : Dg} (hc : Chg w w' (fun k => k = rb ∨ dv.ownBlock = some k)) (hh : Holds w' rb tR #[lv, .int .i64 (pos : Int), bv, dv']) (ho : w'.ownsRow 0 tDg 4 dv' (ds.length + 1) (rowD ds ++ dgCells d))
    (hn : ∀ k, dv'.ownBlock = some k → (dv.ownBlock = some k ∨ w.heap.size ≤ k) ∧ k < w'.heap.size) : Rdr w' (fun k => O k ∨ dv'.ownBlock = some k) F rb lv pos bv bs dv' (ds ++ [d]) ∧ Turn w w' O F (fun k => O k ∨ dv'.ownBlock = some k) F := by
  obtain ⟨kvs, h1, h2, h3⟩ := h.bl
  have hS : ∀ k, (k = rb ∨ dv.ownBlock = some k) → O k := fun k hk => by
    rcases hk with rfl | hk
    · exact h.oR
    · exact (h.oD k hk).1
  have hF : ∀ k, F k → ¬ (k = rb ∨ dv.ownBlock = some k) := fun k hk hs => h.off k hk (hS k hs)
  refine ⟨⟨hh, ⟨kvs, h1, hc.owns h2 (fun k hk hs => ?_), fun j x kv hx hk => ⟨(h3 j x kv hx hk).1.chg hc (fun _ h => h) hF, RowsF.stays.go (h3 j x kv hx hk).2 hc (fun _ h => h) hF⟩⟩, ?_, .inl h.oR, fun k hk => ⟨.inl (h.oB k hk).1, (h.oB k hk).2⟩, fun k hk => ⟨.inr hk, ?_, ?_⟩, fun k hk hs => ?_, fun k hk => ?_, fun k hk => Nat.lt_of_lt_of_le (h.ltF k hk) hc.size⟩,
    ⟨hc.mono (fun k _ hk => hS k hk), fun k hk => ?_, fun k hk => .inl hk, fun k hk => hk⟩⟩
  · rcases hs with hs | hs
    · exact (h.oB k hk).2 hs
    · exact (h.oD k hs).2.2 hk
  · rw [List.length_append, rowD_append]
    simpa [rowD] using ho
  · rcases (hn k hk).1 with h4 | h4
    · exact (h.oD k h4).2.1
    · intro e; have := h.ltO rb h.oR; omega
  · rcases (hn k hk).1 with h4 | h4
    · exact (h.oD k h4).2.2
    · intro e; have := h.ltO k (h.oB k e).1; omega
  · rcases hs with hs | hs
    · exact h.off k hk hs
    · rcases (hn k hs).1 with h4 | h4
      · exact h.off k hk (h.oD k h4).1
      · have := h.ltF k hk; omega
  · rcases hk with hk | hk
    · exact Nat.lt_of_lt_of_le (h.ltO k hk) hc.size
    · exact (hn k hk).2
  · rcases hk with hk | hk
    · exact .inl hk
    · rcases (hn k hk).1 with h4 | h4
      · exact .inl (h.oD k h4).1
      · exact .inr h4
theorem Rdr.added (h : Rdr w O F rb lv pos bv bs dv ds) {bv' : Value} {x : Bl} {kv : Value × Value} (hx : Forest w F kv.1 x.spans ∧ RowsF w F kv.2 x.rows) (hc : Chg w w' (fun k => k = rb ∨ bv.ownBlock = some k)) (hh : Holds w' rb tR #[lv, .int .i64 (pos : Int), bv', dv])
    (kvs : List (Value × Value)) (h1 : kvs.length = bs.length) (h3 : ∀ (j : Nat) x kv, bs[j]? = some x → kvs[j]? = some kv → Forest w F kv.1 x.spans ∧ RowsF w F kv.2 x.rows) (ho2 : w'.ownsRow 0 tBl 9 bv' (bs.length + 1) (rowBl bs kvs ++ blCells x kv))
    (hn : ∀ k, bv'.ownBlock = some k → (bv.ownBlock = some k ∨ w.heap.size ≤ k) ∧ k < w'.heap.size) : Rdr w' (fun k => O k ∨ bv'.ownBlock = some k) F rb lv pos bv' (bs ++ [x]) dv ds ∧ Turn w w' O F (fun k => O k ∨ bv'.ownBlock = some k) F := by
  have hS : ∀ k, (k = rb ∨ bv.ownBlock = some k) → O k := fun k hk => by
    rcases hk with rfl | hk
    · exact h.oR
    · exact (h.oB k hk).1
  have hF : ∀ k, F k → ¬ (k = rb ∨ bv.ownBlock = some k) := fun k hk hs => h.off k hk (hS k hs)
  refine ⟨⟨hh, ⟨kvs ++ [kv], by simp [h1], by rw [List.length_append, rowBl_snoc x kv h1]; exact ho2, fun j y ku hy hku => ?_⟩, hc.owns h.dg (fun k hk hs => ?_), .inl h.oR, fun k hk => ⟨.inr hk, ?_⟩, fun k hk => ⟨.inl (h.oD k hk).1, (h.oD k hk).2.1, fun e => ?_⟩, fun k hk hs => ?_, fun k hk => ?_, fun k hk => Nat.lt_of_lt_of_le (h.ltF k hk) hc.size⟩,
    ⟨hc.mono (fun k _ hk => hS k hk), fun k hk => ?_, fun k hk => .inl hk, fun k hk => hk⟩⟩
  · by_cases hj : j < bs.length
    · rw [List.getElem?_append_left hj] at hy
      rw [List.getElem?_append_left (by omega)] at hku
      exact ⟨(h3 j y ku hy hku).1.chg hc (fun _ h => h) hF, RowsF.stays.go (h3 j y ku hy hku).2 hc (fun _ h => h) hF⟩
    · have hj2 : j = bs.length := by have := (List.getElem?_eq_some_iff.1 hy).1; simp at this; omega
      subst hj2
      rw [List.getElem?_append_right (Nat.le_refl _), Nat.sub_self] at hy
      rw [List.getElem?_append_right (by omega), h1, Nat.sub_self] at hku
      cases hy; cases hku
      exact ⟨hx.1.chg hc (fun _ h => h) hF, RowsF.stays.go hx.2 hc (fun _ h => h) hF⟩
  · rcases hs with hs | hs
    · exact (h.oD k hk).2.1 hs
    · exact (h.oD k hk).2.2 hs
  · rcases (hn k hk).1 with h4 | h4
    · exact (h.oB k h4).2
    · intro e; have := h.ltO rb h.oR; omega
  · rcases (hn k e).1 with h4 | h4
    · exact (h.oD k hk).2.2 h4
    · have := h.ltO k (h.oD k hk).1; omega
  · rcases hs with hs | hs
    · exact h.off k hk hs
    · rcases (hn k hs).1 with h4 | h4
      · exact h.off k hk (h.oB k h4).1
      · have := h.ltF k hk; omega
  · rcases hk with hk | hk
    · exact Nat.lt_of_lt_of_le (h.ltO k hk) hc.size
    · exact (hn k hk).2
  · rcases hk with hk | hk
    · exact .inl hk
    · rcases (hn k hk).1 with h4 | h4
      · exact .inl (h.oB k h4).1
      · exact .inr h4
end
end Go.Bd
namespace Go.Proofs.YtcjmfjccjhdgjaaGreatDoor
open Go.RowKit Go.Bd
theorem diag_info : (Tryz.prog.info? 38).map (fun i => (i.zero, i.size, i.bytes)) = some (some (.agg #[.string ⟨#[]⟩, .int .i64 0, .int .i64 0, .string ⟨#[]⟩]), 4, 48) := by kernel_rfl
set_option maxRecDepth 100000 in
set_option maxHeartbeats 2000000 in
theorem fault_any {w : World} {O F : Nat → Prop} {rb : Nat} {lv : Value} {pos : Nat} {bv : Value} {bs : List Bl} {dv : Value} {ds : List Dg} (h : Rdr w O F rb lv pos bv bs dv ds) (f t : ByteArray) (no : Int) (k : Nat) (txt : ByteArray) (hl : ds.length ≤ 1000000) :
    Calls Tryz.prog 23 #[.pointer (some ⟨rb, 0, none⟩), .agg #[.string f, .int .i64 no, .string t], .int .i64 (k : Int), .string txt] w fun e w' => e = .returned (.tuple #[]) ∧ ∃ O' dv', Rdr w' O' F rb lv pos bv bs dv' (ds ++ [⟨f, no, k, txt⟩]) ∧ Turn w w' O F O' F := by
  obtain ⟨A, c, rfl⟩ : ∃ A c, dv = .slice A ds.length c := by
    rcases h.dg.2 with ⟨h1, h2⟩ | ⟨g, cap, cur, h1, _⟩
    · exact ⟨none, 0, by rw [h1, h2]⟩
    · exact ⟨_, _, h1⟩
  obtain ⟨i0, hi0, hz0, hz1, hz2⟩ := info_parts diag_info
  have hrl := h.hold.lt
  have h1 := h.below ((Below.refl _ w).alloc (Nat.le_refl _) (.cells #[.string f, .int .i64 no, .string t] 62))
  have hX := Holds.new w 62 #[.string f, .int .i64 no, .string t]
  have hT0 : Turn w (w.alloc (.cells #[.string f, .int .i64 no, .string t] 62)) O F O F := ⟨(Chg.refl _ _).alloc _, fun _ h => .inl h, fun _ h => .inl h, fun _ h => h⟩
  have hsz : (w.alloc (.cells #[.string f, .int .i64 no, .string t] 62)).heap.size = w.heap.size + 1 := by simp
  obtain ⟨n, hn⟩ : ∃ n, w.heap.size = n := ⟨_, rfl⟩
  rw [hn] at hX hsz
  obtain ⟨W1, hW1⟩ : ∃ W1, w.alloc (.cells #[.string f, .int .i64 no, .string t] 62) = W1 := ⟨_, rfl⟩
  rw [hW1] at h1 hX hT0 hsz
  have d0 := hX.cell 0
  have d1 := hX.cell 1
  have d3 := h1.hold.cell 3
  have f3 := h1.hold.free 3
  simp at d0 d1 d3
  have hb1 : rb < W1.heap.size := h1.hold.lt
  have hbx : n < W1.heap.size := by omega
  have hkr : (Value.slice A ds.length c).ownBlock ≠ some rb := fun e => (h1.oD rb e).2.1 rfl
  have hkn : (Value.slice A ds.length c).ownBlock ≠ some n := fun e => by have := h.ltO n (h.oD n e).1; omega
  have hrn : rb ≠ n := by omega
  have HR := Lib.hid (And.intro h1 hT0)
  have HZ := Lib.hid (And.intro hi0 (And.intro hz0 (And.intro hz1 hz2)))
  have HW1 := Lib.hid hW1
  have HN := Lib.hid hn
  have HX := Lib.hid hX
  have hnW : w.heap.size ≤ n := Nat.le_of_eq hn
  have HSZ := Lib.hid hsz
  clear h h1 hT0 hi0 hz0 hz1 hz2 hX hsz
  have e0 : (W1.alloc (.cells #[.string f, .int .i64 no, .int .i64 (k : Int), .string txt] 38)).cell? ⟨n, 0, none⟩ = some (.string f) := by rw [World.cell?_alloc_lt _ _ _ hbx]; exact d0
  have e1 : (W1.alloc (.cells #[.string f, .int .i64 no, .int .i64 (k : Int), .string txt] 38)).cell? ⟨n, 1, none⟩ = some (.int .i64 no) := by rw [World.cell?_alloc_lt _ _ _ hbx]; exact d1
  have e3 : (W1.alloc (.cells #[.string f, .int .i64 no, .int .i64 (k : Int), .string txt] 38)).cell? ⟨rb, 3, none⟩ = some (.slice A ds.length c) := by rw [World.cell?_alloc_lt _ _ _ hb1]; exact d3
  go_enter Tryz.func23, Tryz.ntmps23
  go_wp2
  (try rw [hW1])
  (try rw [hn])
  clear hW1 hn
  refine wp_region_held_drew (S := (fun w' => w'.cell? ⟨n, 0, none⟩ = some (.string f) ∧ w'.cell? ⟨n, 1, none⟩ = some (.int .i64 no))) (by kernel_rfl) ?_ (fun hHeld0 => ?_)
  · (try dsimp only)
    first | exact ⟨d0, d1⟩ | exact ⟨e0, e1⟩ | exact ⟨g0, g1⟩ | exact ⟨k0, k1⟩
  refine wpAnyH_take (i := 0) (oi := ⟨some 8, _, _, _, _, _⟩) (v := ?_) rfl (by kernel_rfl) (by kernel_rfl) (by kernel_rfl) (fun _ _ _ h => h) (Or.inl ⟨by kernel_rfl, ?_⟩) (by assumption) ?_
  rotate_left
  · (intro w hSw; (try dsimp only at hSw); go_simp; (first | done | with_reducible rfl))
  (try simp only [Act.put, List.setIfInBounds_toArray, List.set_cons_zero, List.set_cons_succ])
  refine wpAnyH_take (i := 1) (oi := ⟨some 9, _, _, _, _, _⟩) (v := ?_) rfl (by kernel_rfl) (by kernel_rfl) (by kernel_rfl) (fun _ _ _ h => h) (Or.inl ⟨by kernel_rfl, ?_⟩) (by assumption) ?_
  rotate_left
  · (intro w hSw; (try dsimp only at hSw); go_simp; (first | done | with_reducible rfl))
  (try simp only [Act.put, List.setIfInBounds_toArray, List.set_cons_zero, List.set_cons_succ])
  refine wpAnyH_take (i := 2) (oi := ⟨some 10, _, _, _, _, _⟩) (v := ?_) rfl (by kernel_rfl) (by kernel_rfl) (by kernel_rfl) (fun _ _ _ h => h) (Or.inl ⟨by kernel_rfl, ?_⟩) (by assumption) ?_
  rotate_left
  · (intro w hSw; (try dsimp only at hSw); go_simp; (first | done | with_reducible rfl))
  (try simp only [Act.put, List.setIfInBounds_toArray, List.set_cons_zero, List.set_cons_succ])
  refine wpAnyH_take (i := 3) (oi := ⟨some 11, _, _, _, _, _⟩) (v := ?_) rfl (by kernel_rfl) (by kernel_rfl) (by kernel_rfl) (fun _ _ _ h => h) (Or.inl ⟨by kernel_rfl, ?_⟩) (by assumption) ?_
  rotate_left
  · (intro w hSw; (try dsimp only at hSw); go_simp; (first | done | with_reducible rfl))
  (try simp only [Act.put, List.setIfInBounds_toArray, List.set_cons_zero, List.set_cons_succ])
  refine wpAnyH_take (i := 5) (oi := ⟨some 13, _, _, _, _, _⟩) (v := ?_) rfl (by kernel_rfl) (by kernel_rfl) (by kernel_rfl) (fun _ _ _ h => h) (Or.inl ⟨by kernel_rfl, ?_⟩) (by assumption) ?_
  rotate_left
  · (intro w hSw; (try dsimp only at hSw); go_simp; (first | done | with_reducible rfl))
  (try simp only [Act.put, List.setIfInBounds_toArray, List.set_cons_zero, List.set_cons_succ])
  refine wpAnyH_take (i := 6) (oi := ⟨some 14, _, _, _, _, _⟩) (v := ?_) rfl (by kernel_rfl) (by kernel_rfl) (by kernel_rfl) (fun _ _ _ h => h) (Or.inl ⟨by kernel_rfl, ?_⟩) (by assumption) ?_
  rotate_left
  · (intro w hSw; (try dsimp only at hSw); go_simp; (first | done | with_reducible rfl))
  (try simp only [Act.put, List.setIfInBounds_toArray, List.set_cons_zero, List.set_cons_succ])
  refine wpAnyH_take (i := 7) (oi := ⟨some 15, _, _, _, _, _⟩) (v := ?_) rfl (by kernel_rfl) (by kernel_rfl) (by kernel_rfl) (fun _ _ _ h => h) (Or.inl ⟨by kernel_rfl, ?_⟩) (by assumption) ?_
  rotate_left
  · (intro w hSw; (try dsimp only at hSw); go_simp; (first | done | with_reducible rfl))
  (try simp only [Act.put, List.setIfInBounds_toArray, List.set_cons_zero, List.set_cons_succ])
  refine wpAnyH_take (i := 8) (oi := ⟨some 16, _, _, _, _, _⟩) (v := ?_) rfl (by kernel_rfl) (by kernel_rfl) (by kernel_rfl) (fun _ _ _ h => h) (Or.inl ⟨by kernel_rfl, ?_⟩) (by assumption) ?_
  rotate_left
  · (intro w hSw; (try dsimp only at hSw); go_simp; (first | done | with_reducible rfl))
  (try simp only [Act.put, List.setIfInBounds_toArray, List.set_cons_zero, List.set_cons_succ])
  refine wpAnyH_take (i := 9) (oi := ⟨some 17, _, _, _, _, _⟩) (v := ?_) rfl (by kernel_rfl) (by kernel_rfl) (by kernel_rfl) (fun _ _ _ h => h) (Or.inl ⟨by kernel_rfl, ?_⟩) (by assumption) ?_
  rotate_left
  · (intro w hSw; (try dsimp only at hSw); go_simp; (first | done | with_reducible rfl))
  (try simp only [Act.put, List.setIfInBounds_toArray, List.set_cons_zero, List.set_cons_succ])
  refine wpAnyH_take (i := 10) (oi := ⟨some 18, _, _, _, _, _⟩) (v := ?_) rfl (by kernel_rfl) (by kernel_rfl) (by kernel_rfl) (fun _ _ _ h => h) (Or.inl ⟨by kernel_rfl, ?_⟩) (by assumption) ?_
  rotate_left
  · (intro w hSw; (try dsimp only at hSw); go_simp; (first | done | with_reducible rfl))
  (try simp only [Act.put, List.setIfInBounds_toArray, List.set_cons_zero, List.set_cons_succ])
  refine wpAnyH_take (i := 11) (oi := ⟨some 19, _, _, _, _, _⟩) (v := ?_) rfl (by kernel_rfl) (by kernel_rfl) (by kernel_rfl) (fun _ _ _ h => h) (Or.inl ⟨by kernel_rfl, ?_⟩) (by assumption) ?_
  rotate_left
  · (intro w hSw; (try dsimp only at hSw); go_simp; (first | done | with_reducible rfl))
  (try simp only [Act.put, List.setIfInBounds_toArray, List.set_cons_zero, List.set_cons_succ])
  refine wpAnyH_ready (rs := [4, 12]) (by kernel_rfl) (by simp) ?_
  refine AllReadyH.cons (o := ⟨some 12, _, _, _, _, _⟩) rfl (fun K hK => ?_) ?_
  · skip
    go_simp
    refine hK.out _ _ ?_ (fun hHeld1 => ?_)
    · (try dsimp only)
      first | exact ⟨d0, d1⟩ | exact ⟨e0, e1⟩ | exact ⟨g0, g1⟩ | exact ⟨k0, k1⟩
    clear hK K hHeld0
    (try simp only [Act.put, List.setIfInBounds_toArray, List.set_cons_zero, List.set_cons_succ])
    refine wpAnyH_ready (rs := [12]) (by kernel_rfl) (by simp) ?_
    refine AllReadyH.cons (o := ⟨some 20, _, _, _, _, _⟩) rfl (fun K hK => ?_) AllReadyH.nil
    go_simp
    refine hK.out _ _ ?_ (fun hHeld2 => ?_)
    · (try dsimp only)
      first | exact ⟨d0, d1⟩ | exact ⟨e0, e1⟩ | exact ⟨g0, g1⟩ | exact ⟨k0, k1⟩
    clear hK K hHeld1
    (try simp only [Act.put, List.setIfInBounds_toArray, List.set_cons_zero, List.set_cons_succ])
    refine wpAnyH_ready (rs := [13]) (by kernel_rfl) (by simp) ?_
    refine AllReadyH.cons (o := ⟨some 21, _, _, _, _, _⟩) rfl (fun K hK => ?_) AllReadyH.nil
    refine step_append_lies _ (by rfl) _ _ _ (by rfl) 0 38 i0 _ 4 48 Tryz.underlying26 HZ.out.1 HZ.out.2.1 HZ.out.2.2.1 HZ.out.2.2.2 rfl (by omega) (.slice A ds.length c) ds.length (rowD ds) (by rfl) ((HR.out.1.dg.alloc _).drew)
      ⟨W1.heap.size, 0, none⟩ 1 1 [.string f, .int .i64 no, .int .i64 (k : Int), .string txt] (by rfl) (by rfl) (World.news_of_block (cs := #[.string f, .int .i64 no, .int .i64 (k : Int), .string txt]) (t := 38) (fr := (0, 0)) (heap_alloc_new W1 _)) (by simp [Value.oneCell'])
      (by omega) (by unfold maxLen; omega) (by omega) (Nat.zero_le _) (W1.heap.size + 1) (by simp) ?_
    intro g cap w2 ho2 hg2 hat2 hl2
    have hC2 : Chg W1 w2 (fun b => (Value.slice A ds.length c).ownBlock = some b) := (((Chg.refl W1 _).alloc _).drew).trans (Chg.grown hg2) (fun _ _ h => h.symm)
    have hgb : g ≠ rb := fun e => by
      rcases hat2 with h | h
      · exact hkr (by rw [h, e])
      · omega
    have hgn : g ≠ n := fun e => by
      rcases hat2 with h | h
      · exact hkn (by rw [h, e])
      · omega
    have hh2 := hC2.holds hkr HR.out.1.hold
    have g0 := hC2.cell (p := ⟨n, 0, none⟩) hkn d0
    have g1 := hC2.cell (p := ⟨n, 1, none⟩) hkn d1
    have g3 := hC2.cell (p := ⟨rb, 3, none⟩) hkr d3
    have q3 := hh2.free 3
    have k0 := cell_far (g := rb) (i := 3) (j := 0) hrn (.slice (some ⟨g, 0, none⟩) (ds.length + 1) cap) g0
    have k1 := cell_far (g := rb) (i := 3) (j := 1) hrn (.slice (some ⟨g, 0, none⟩) (ds.length + 1) cap) g1
    have HE := Lib.hid (And.intro hC2 (And.intro ho2 (And.intro hat2 hh2)))
    clear hC2 ho2 hat2 hh2 hg2
    refine hK.out _ _ ?_ (fun hHeld3 => ?_)
    · (try dsimp only)
      first | exact ⟨d0, d1⟩ | exact ⟨e0, e1⟩ | exact ⟨g0, g1⟩ | exact ⟨k0, k1⟩
    clear hK K hHeld2
    (try simp only [Act.put, List.setIfInBounds_toArray, List.set_cons_zero, List.set_cons_succ])
    refine wpAnyH_take (i := 14) (oi := ⟨some 22, _, _, _, _, _⟩) (v := ?_) rfl (by kernel_rfl) (by kernel_rfl) (by kernel_rfl) (fun _ _ _ h => h) (Or.inl ⟨by kernel_rfl, ?_⟩) (by assumption) ?_
    rotate_left
    · (intro w hSw; (try dsimp only at hSw); go_simp; (first | done | with_reducible rfl))
    (try simp only [Act.put, List.setIfInBounds_toArray, List.set_cons_zero, List.set_cons_succ])
    refine wpAnyH_take (i := 15) (oi := ⟨some 23, _, _, _, _, _⟩) (v := ?_) rfl (by kernel_rfl) (by kernel_rfl) (by kernel_rfl) (fun _ _ _ h => h) (Or.inl ⟨by kernel_rfl, ?_⟩) (by assumption) ?_
    rotate_left
    · (intro w hSw; (try dsimp only at hSw); go_simp; (first | done | with_reducible rfl))
    (try simp only [Act.put, List.setIfInBounds_toArray, List.set_cons_zero, List.set_cons_succ])
    refine wpAnyH_ready (rs := [16]) (by kernel_rfl) (by simp) ?_
    refine AllReadyH.cons rfl (fun K hK => ?_) AllReadyH.nil
    go_simp
    refine hK.out _ _ ?_ (fun hHeld4 => ?_)
    · (try dsimp only)
      first | exact ⟨d0, d1⟩ | exact ⟨e0, e1⟩ | exact ⟨g0, g1⟩ | exact ⟨k0, k1⟩
    clear hK K hHeld3
    (try simp only [Act.put, List.setIfInBounds_toArray, List.set_cons_zero, List.set_cons_succ])
    refine wpAnyH_done (by kernel_rfl) ?_ _
    go_wp2
    go_end0
    have hC := Chg.set w2 ⟨rb, 3, none⟩ (.slice (some ⟨g, 0, none⟩) (ds.length + 1) cap)
    have hall : Chg W1 (w2.setCell ⟨rb, 3, none⟩ (.slice (some ⟨g, 0, none⟩) (ds.length + 1) cap)) (fun b => b = rb ∨ (Value.slice A ds.length c).ownBlock = some b) :=
      (HE.out.1.mono (T := fun b => b = rb ∨ (Value.slice A ds.length c).ownBlock = some b) (fun k _ h => .inr h)).trans hC (fun k _ h => .inl h)
    obtain ⟨hq1, hq2⟩ := HR.out.1.told (d := ⟨f, no, k, txt⟩) hall (HE.out.2.2.2.set 3 _) (hC.owns HE.out.2.1 (fun k hk e => hgb ((show g = k from (by simpa [Value.ownBlock] using hk)).trans e))) (fun b hb => by
      have e1 : g = b := by simpa [Value.ownBlock] using hb
      rw [← e1]
      refine ⟨?_, by simpa [World.setCell] using hl2⟩
      rcases HE.out.2.2.1 with h | h
      · exact .inl h
      · exact .inr (by omega))
    exact ⟨rfl, _, _, hq1, HR.out.2.trans hq2⟩
  refine AllReadyH.cons (o := ⟨some 20, _, _, _, _, _⟩) rfl (fun K hK => ?_) AllReadyH.nil
  go_simp
  refine hK.out _ _ ?_ (fun hHeld1 => ?_)
  · (try dsimp only)
    first | exact ⟨d0, d1⟩ | exact ⟨e0, e1⟩ | exact ⟨g0, g1⟩ | exact ⟨k0, k1⟩
  clear hK K hHeld0
  (try simp only [Act.put, List.setIfInBounds_toArray, List.set_cons_zero, List.set_cons_succ])
  refine wpAnyH_ready (rs := [4]) (by kernel_rfl) (by simp) ?_
  refine AllReadyH.cons (o := ⟨some 12, _, _, _, _, _⟩) rfl (fun K hK => ?_) AllReadyH.nil
  go_simp
  refine hK.out _ _ ?_ (fun hHeld2 => ?_)
  · (try dsimp only)
    first | exact ⟨d0, d1⟩ | exact ⟨e0, e1⟩ | exact ⟨g0, g1⟩ | exact ⟨k0, k1⟩
  clear hK K hHeld1
  (try simp only [Act.put, List.setIfInBounds_toArray, List.set_cons_zero, List.set_cons_succ])
  refine wpAnyH_ready (rs := [13]) (by kernel_rfl) (by simp) ?_
  refine AllReadyH.cons (o := ⟨some 21, _, _, _, _, _⟩) rfl (fun K hK => ?_) AllReadyH.nil
  refine step_append_lies _ (by rfl) _ _ _ (by rfl) 0 38 i0 _ 4 48 Tryz.underlying26 HZ.out.1 HZ.out.2.1 HZ.out.2.2.1 HZ.out.2.2.2 rfl (by omega) (.slice A ds.length c) ds.length (rowD ds) (by rfl) ((HR.out.1.dg.alloc _).drew)
    ⟨W1.heap.size, 0, none⟩ 1 1 [.string f, .int .i64 no, .int .i64 (k : Int), .string txt] (by rfl) (by rfl) (World.news_of_block (cs := #[.string f, .int .i64 no, .int .i64 (k : Int), .string txt]) (t := 38) (fr := (0, 0)) (heap_alloc_new W1 _)) (by simp [Value.oneCell'])
    (by omega) (by unfold maxLen; omega) (by omega) (Nat.zero_le _) (W1.heap.size + 1) (by simp) ?_
  intro g cap w2 ho2 hg2 hat2 hl2
  have hC2 : Chg W1 w2 (fun b => (Value.slice A ds.length c).ownBlock = some b) := (((Chg.refl W1 _).alloc _).drew).trans (Chg.grown hg2) (fun _ _ h => h.symm)
  have hgb : g ≠ rb := fun e => by
    rcases hat2 with h | h
    · exact hkr (by rw [h, e])
    · omega
  have hgn : g ≠ n := fun e => by
    rcases hat2 with h | h
    · exact hkn (by rw [h, e])
    · omega
  have hh2 := hC2.holds hkr HR.out.1.hold
  have g0 := hC2.cell (p := ⟨n, 0, none⟩) hkn d0
  have g1 := hC2.cell (p := ⟨n, 1, none⟩) hkn d1
  have g3 := hC2.cell (p := ⟨rb, 3, none⟩) hkr d3
  have q3 := hh2.free 3
  have k0 := cell_far (g := rb) (i := 3) (j := 0) hrn (.slice (some ⟨g, 0, none⟩) (ds.length + 1) cap) g0
  have k1 := cell_far (g := rb) (i := 3) (j := 1) hrn (.slice (some ⟨g, 0, none⟩) (ds.length + 1) cap) g1
  have HE := Lib.hid (And.intro hC2 (And.intro ho2 (And.intro hat2 hh2)))
  clear hC2 ho2 hat2 hh2 hg2
  refine hK.out _ _ ?_ (fun hHeld3 => ?_)
  · (try dsimp only)
    first | exact ⟨d0, d1⟩ | exact ⟨e0, e1⟩ | exact ⟨g0, g1⟩ | exact ⟨k0, k1⟩
  clear hK K hHeld2
  (try simp only [Act.put, List.setIfInBounds_toArray, List.set_cons_zero, List.set_cons_succ])
  refine wpAnyH_take (i := 14) (oi := ⟨some 22, _, _, _, _, _⟩) (v := ?_) rfl (by kernel_rfl) (by kernel_rfl) (by kernel_rfl) (fun _ _ _ h => h) (Or.inl ⟨by kernel_rfl, ?_⟩) (by assumption) ?_
  rotate_left
  · (intro w hSw; (try dsimp only at hSw); go_simp; (first | done | with_reducible rfl))
  (try simp only [Act.put, List.setIfInBounds_toArray, List.set_cons_zero, List.set_cons_succ])
  refine wpAnyH_take (i := 15) (oi := ⟨some 23, _, _, _, _, _⟩) (v := ?_) rfl (by kernel_rfl) (by kernel_rfl) (by kernel_rfl) (fun _ _ _ h => h) (Or.inl ⟨by kernel_rfl, ?_⟩) (by assumption) ?_
  rotate_left
  · (intro w hSw; (try dsimp only at hSw); go_simp; (first | done | with_reducible rfl))
  (try simp only [Act.put, List.setIfInBounds_toArray, List.set_cons_zero, List.set_cons_succ])
  refine wpAnyH_ready (rs := [16]) (by kernel_rfl) (by simp) ?_
  refine AllReadyH.cons rfl (fun K hK => ?_) AllReadyH.nil
  go_simp
  refine hK.out _ _ ?_ (fun hHeld4 => ?_)
  · (try dsimp only)
    first | exact ⟨d0, d1⟩ | exact ⟨e0, e1⟩ | exact ⟨g0, g1⟩ | exact ⟨k0, k1⟩
  clear hK K hHeld3
  (try simp only [Act.put, List.setIfInBounds_toArray, List.set_cons_zero, List.set_cons_succ])
  refine wpAnyH_done (by kernel_rfl) ?_ _
  go_wp2
  go_end0
  have hC := Chg.set w2 ⟨rb, 3, none⟩ (.slice (some ⟨g, 0, none⟩) (ds.length + 1) cap)
  have hall : Chg W1 (w2.setCell ⟨rb, 3, none⟩ (.slice (some ⟨g, 0, none⟩) (ds.length + 1) cap)) (fun b => b = rb ∨ (Value.slice A ds.length c).ownBlock = some b) :=
    (HE.out.1.mono (T := fun b => b = rb ∨ (Value.slice A ds.length c).ownBlock = some b) (fun k _ h => .inr h)).trans hC (fun k _ h => .inl h)
  obtain ⟨hq1, hq2⟩ := HR.out.1.told (d := ⟨f, no, k, txt⟩) hall (HE.out.2.2.2.set 3 _) (hC.owns HE.out.2.1 (fun k hk e => hgb ((show g = k from (by simpa [Value.ownBlock] using hk)).trans e))) (fun b hb => by
    have e1 : g = b := by simpa [Value.ownBlock] using hb
    rw [← e1]
    refine ⟨?_, by simpa [World.setCell] using hl2⟩
    rcases HE.out.2.2.1 with h | h
    · exact .inl h
    · exact .inr (by omega))
  exact ⟨rfl, _, _, hq1, HR.out.2.trans hq2⟩
end Go.Proofs.YtcjmfjccjhdgjaaGreatDoor
namespace Go.Bd
open Go.RowKit
theorem cells9 {w : World} {x : Nat} {t : TypeId} {a b c d e f g h i : Value} (hh : Holds w x t #[a, b, c, d, e, f, g, h, i]) : w.cell? ⟨x, 0, none⟩ = some a ∧ w.cell? ⟨x, 1, none⟩ = some b ∧ w.cell? ⟨x, 2, none⟩ = some c ∧ w.cell? ⟨x, 3, none⟩ = some d ∧ w.cell? ⟨x, 4, none⟩ = some e ∧ w.cell? ⟨x, 5, none⟩ = some f ∧ w.cell? ⟨x, 6, none⟩ = some g ∧ w.cell? ⟨x, 7, none⟩ = some h ∧ w.cell? ⟨x, 8, none⟩ = some i :=
  ⟨hh.cell 0, hh.cell 1, hh.cell 2, hh.cell 3, hh.cell 4, hh.cell 5, hh.cell 6, hh.cell 7, hh.cell 8⟩
theorem two_sets {w : World} {O F : Nat → Prop} {rb : Nat} {lv : Value} {pos : Nat} {bv : Value} {bs : List Bl} {dv : Value} {ds : List Dg} {w0 : World} (h : Rdr w O F rb lv pos bv bs dv ds) (hT : Turn w0 w O F O F) {x : Nat} {t : TypeId} {a b c d e f g u v u0 v0 : Value} (hx0 : w0.heap.size ≤ x) (hxO : ¬ O x) (hxF : ¬ F x) (hh : Holds w x t #[a, b, c, d, e, f, g, u0, v0]) :
    (Chg w ((w.setCell ⟨x, 7, none⟩ u).setCell ⟨x, 8, none⟩ v).drew (fun k => k = x) ∧ Rdr ((w.setCell ⟨x, 7, none⟩ u).setCell ⟨x, 8, none⟩ v).drew O F rb lv pos bv bs dv ds ∧ Turn w0 ((w.setCell ⟨x, 7, none⟩ u).setCell ⟨x, 8, none⟩ v).drew O F O F ∧ Holds ((w.setCell ⟨x, 7, none⟩ u).setCell ⟨x, 8, none⟩ v).drew x t #[a, b, c, d, e, f, g, u, v]) ∧
    (Chg w ((w.setCell ⟨x, 8, none⟩ v).setCell ⟨x, 7, none⟩ u).drew (fun k => k = x) ∧ Rdr ((w.setCell ⟨x, 8, none⟩ v).setCell ⟨x, 7, none⟩ u).drew O F rb lv pos bv bs dv ds ∧ Turn w0 ((w.setCell ⟨x, 8, none⟩ v).setCell ⟨x, 7, none⟩ u).drew O F O F ∧ Holds ((w.setCell ⟨x, 8, none⟩ v).setCell ⟨x, 7, none⟩ u).drew x t #[a, b, c, d, e, f, g, u, v]) := by
  have hc1 : Chg w ((w.setCell ⟨x, 7, none⟩ u).setCell ⟨x, 8, none⟩ v).drew (fun k => k = x) := ((Chg.set w ⟨x, 7, none⟩ u).trans (Chg.set _ ⟨x, 8, none⟩ v) (fun _ _ h => h)).drew
  have hc2 : Chg w ((w.setCell ⟨x, 8, none⟩ v).setCell ⟨x, 7, none⟩ u).drew (fun k => k = x) := ((Chg.set w ⟨x, 8, none⟩ v).trans (Chg.set _ ⟨x, 7, none⟩ u) (fun _ _ h => h)).drew
  refine ⟨⟨hc1, h.chg hc1 (fun k hk e => hxO (e ▸ hk)) (fun k hk e => hxF (e ▸ hk)), ⟨hT.chg.trans hc1 (fun k hk e => by omega), hT.inO, hT.inF, hT.moF⟩, ?_⟩, ⟨hc2, h.chg hc2 (fun k hk e => hxO (e ▸ hk)) (fun k hk e => hxF (e ▸ hk)), ⟨hT.chg.trans hc2 (fun k hk e => by omega), hT.inO, hT.inF, hT.moF⟩, ?_⟩⟩
  · have := (hh.set 7 u).set 8 v
    simpa using this.drew
  · have := (hh.set 8 v).set 7 u
    simpa using this.drew
end Go.Bd
namespace Go.Proofs.YtcjmfjccjhdgjaaGreatDoor
open Go.RowKit Go.Bd
theorem block_info : (Tryz.prog.info? 35).map (fun i => (i.zero, i.size, i.bytes)) = some (some (.agg #[.int .u8 0, .int .i64 0, .bool false, .string ⟨#[]⟩, .string ⟨#[]⟩, .slice none 0 0, .slice none 0 0, .string ⟨#[]⟩, .int .i64 0]), 9, 128) := by kernel_rfl
set_option maxRecDepth 100000 in
set_option maxHeartbeats 4000000 in
theorem badd_any {w : World} {O F : Nat → Prop} {rb : Nat} {lv : Value} {pos : Nat} {bv : Value} {bs : List Bl} {dv : Value} {ds : List Dg} (h : Rdr w O F rb lv pos bv bs dv ds) (x : Bl) (sv rv : Value) (hx : Forest w F sv x.spans ∧ RowsF w F rv x.rows) (f t f0 : ByteArray) (no n0 : Int) (hl : bs.length ≤ 1000000) (hf : x.file = f) (hno : x.line = no) :
    Calls Tryz.prog 34 #[.pointer (some ⟨rb, 0, none⟩), .agg #[.int .u8 (x.kind : Int), .int .i64 (x.level : Int), .bool x.ordered, .string x.label, .string x.text, sv, rv, .string f0, .int .i64 n0], .agg #[.string f, .int .i64 no, .string t]] w fun e w' => e = .returned (.tuple #[]) ∧ ∃ O' bv', Rdr w' O' F rb lv pos bv' (bs ++ [x]) dv ds ∧ Turn w w' O F O' F := by
  obtain ⟨A, c, rfl⟩ : ∃ A c, bv = .slice A bs.length c := by
    obtain ⟨kvs, _, h2, _⟩ := h.bl
    rcases h2.2 with ⟨h1, h2⟩ | ⟨g, cap, cur, h1, _⟩
    · exact ⟨none, 0, by rw [h1, h2]⟩
    · exact ⟨_, _, h1⟩
  obtain ⟨As, cs, rfl, _⟩ := hx.1.form
  obtain ⟨Ar, cr, rfl, _⟩ := hx.2.len
  obtain ⟨i0, hi0, hz0, hz1, hz2⟩ := info_parts block_info
  have hrl := h.hold.lt
  have hb12 := ((Below.refl w.heap.size w).alloc (Nat.le_refl _) (.cells #[.int .u8 (x.kind : Int), .int .i64 (x.level : Int), .bool x.ordered, .string x.label, .string x.text, .slice As x.spans.length cs, .slice Ar x.rows.length cr, .string f0, .int .i64 n0] 35)).alloc (by simp) (.cells #[.string f, .int .i64 no, .string t] 62)
  have h1 := h.below hb12
  have hX := (Holds.new w 35 #[.int .u8 (x.kind : Int), .int .i64 (x.level : Int), .bool x.ordered, .string x.label, .string x.text, .slice As x.spans.length cs, .slice Ar x.rows.length cr, .string f0, .int .i64 n0]).alloc (.cells #[.string f, .int .i64 no, .string t] 62)
  have hY := Holds.new (w.alloc (.cells #[.int .u8 (x.kind : Int), .int .i64 (x.level : Int), .bool x.ordered, .string x.label, .string x.text, .slice As x.spans.length cs, .slice Ar x.rows.length cr, .string f0, .int .i64 n0] 35)) 62 #[.string f, .int .i64 no, .string t]
  rw [World.size_alloc] at hY
  have hx1 : Forest _ F (.slice As x.spans.length cs) x.spans ∧ RowsF _ F (.slice Ar x.rows.length cr) x.rows := ⟨hx.1.chg (Chg.below hb12 (fun _ => False)) (fun _ h => h) (fun _ _ h => h), RowsF.stays.go hx.2 (Chg.below hb12 (fun _ => False)) (fun _ h => h) (fun _ _ h => h)⟩
  have hT0 : Turn w _ O F O F := ⟨Chg.below hb12 O, fun _ h => .inl h, fun _ h => .inl h, fun _ h => h⟩
  obtain ⟨n, hn⟩ : ∃ n, w.heap.size = n := ⟨_, rfl⟩
  rw [hn] at hX hY
  obtain ⟨W1, hW1⟩ : ∃ W1, (w.alloc (.cells #[.int .u8 (x.kind : Int), .int .i64 (x.level : Int), .bool x.ordered, .string x.label, .string x.text, .slice As x.spans.length cs, .slice Ar x.rows.length cr, .string f0, .int .i64 n0] 35)).alloc (.cells #[.string f, .int .i64 no, .string t] 62) = W1 := ⟨_, rfl⟩
  rw [hW1] at h1 hX hY hx1 hT0
  have d0 := hY.cell 0
  have d1 := hY.cell 1
  simp at d0 d1
  obtain ⟨b0, b1, b2, b3, b4, b5, b6, b7, b8⟩ := cells9 hX
  have g7 := hX.free 7
  have g8 := hX.free 8
  have hnn : n ≠ n + 1 := by omega
  have m0 := cell_far (g := n) (i := 7) (j := 0) hnn (.string f) d0
  have m1 := cell_far (g := n) (i := 7) (j := 1) hnn (.string f) d1
  have p0 := cell_far (g := n) (i := 8) (j := 0) hnn (.int .i64 no) d0
  have p1 := cell_far (g := n) (i := 8) (j := 1) hnn (.int .i64 no) d1
  have s0 := cell_far (g := n) (i := 8) (j := 0) hnn (.int .i64 no) m0
  have s1 := cell_far (g := n) (i := 8) (j := 1) hnn (.int .i64 no) m1
  have r0 := cell_far (g := n) (i := 7) (j := 0) hnn (.string f) p0
  have r1 := cell_far (g := n) (i := 7) (j := 1) hnn (.string f) p1
  have m8 := cell_off (i := 7) (j := 8) (by omega) (.string f) b8
  have p7 := cell_off (i := 8) (j := 7) (by omega) (.int .i64 no) b7
  have hkn : ¬ O n := fun e => by have := h.ltO n e; omega
  have hkF : ¬ F n := fun e => by have := h.ltF n e; omega
  have hnW : w.heap.size ≤ n := Nat.le_of_eq hn
  have HR := Lib.hid (And.intro h1 (And.intro hT0 (And.intro hX hx1)))
  have HZ := Lib.hid (And.intro hi0 (And.intro hz0 (And.intro hz1 hz2)))
  have HN := Lib.hid hn
  have HFN := Lib.hid (And.intro hf hno)
  have HW0 := Lib.hid h.ltO
  clear h h1 hT0 hi0 hz0 hz1 hz2 hX hY hx hx1 hb12 hf hno
  go_enter Tryz.func34, Tryz.ntmps34
  go_wp2
  (try rw [hW1])
  (try rw [hn])
  clear hW1 hn
  refine wp_region_held_drew (S := (fun w' => w'.cell? ⟨n + 1, 0, none⟩ = some (.string f) ∧ w'.cell? ⟨n + 1, 1, none⟩ = some (.int .i64 no))) (by kernel_rfl) ?_ (fun hHeld0 => ?_)
  · (try dsimp only)
    first | exact ⟨d0, d1⟩ | exact ⟨m0, m1⟩ | exact ⟨p0, p1⟩ | exact ⟨s0, s1⟩ | exact ⟨r0, r1⟩
  refine wpAnyH_take (i := 0) (oi := ⟨some 6, _, _, _, _, _⟩) (v := ?_) rfl (by kernel_rfl) (by kernel_rfl) (by kernel_rfl) (fun _ _ _ h => h) (Or.inl ⟨by kernel_rfl, ?_⟩) (by assumption) ?_
  rotate_left
  · (intro w hSw; (try dsimp only at hSw); go_simp; (first | done | with_reducible rfl))
  (try simp only [Act.put, List.setIfInBounds_toArray, List.set_cons_zero, List.set_cons_succ])
  refine wpAnyH_take (i := 1) (oi := ⟨some 7, _, _, _, _, _⟩) (v := ?_) rfl (by kernel_rfl) (by kernel_rfl) (by kernel_rfl) (fun _ _ _ h => h) (Or.inl ⟨by kernel_rfl, ?_⟩) (by assumption) ?_
  rotate_left
  · (intro w hSw; (try dsimp only at hSw); go_simp; (first | done | with_reducible rfl))
  (try simp only [Act.put, List.setIfInBounds_toArray, List.set_cons_zero, List.set_cons_succ])
  refine wpAnyH_take (i := 2) (oi := ⟨some 8, _, _, _, _, _⟩) (v := ?_) rfl (by kernel_rfl) (by kernel_rfl) (by kernel_rfl) (fun _ _ _ h => h) (Or.inl ⟨by kernel_rfl, ?_⟩) (by assumption) ?_
  rotate_left
  · (intro w hSw; (try dsimp only at hSw); go_simp; (first | done | with_reducible rfl))
  (try simp only [Act.put, List.setIfInBounds_toArray, List.set_cons_zero, List.set_cons_succ])
  refine wpAnyH_take (i := 3) (oi := ⟨some 9, _, _, _, _, _⟩) (v := ?_) rfl (by kernel_rfl) (by kernel_rfl) (by kernel_rfl) (fun _ _ _ h => h) (Or.inl ⟨by kernel_rfl, ?_⟩) (by assumption) ?_
  rotate_left
  · (intro w hSw; (try dsimp only at hSw); go_simp; (first | done | with_reducible rfl))
  (try simp only [Act.put, List.setIfInBounds_toArray, List.set_cons_zero, List.set_cons_succ])
  refine wpAnyH_take (i := 4) (oi := ⟨some 10, _, _, _, _, _⟩) (v := ?_) rfl (by kernel_rfl) (by kernel_rfl) (by kernel_rfl) (fun _ _ _ h => h) (Or.inl ⟨by kernel_rfl, ?_⟩) (by assumption) ?_
  rotate_left
  · (intro w hSw; (try dsimp only at hSw); go_simp; (first | done | with_reducible rfl))
  (try simp only [Act.put, List.setIfInBounds_toArray, List.set_cons_zero, List.set_cons_succ])
  refine wpAnyH_ready (rs := [5]) (by kernel_rfl) (by simp) ?_
  refine AllReadyH.cons rfl (fun K hK => ?_) AllReadyH.nil
  go_simp
  refine hK.out _ _ ?_ (fun hHeld1 => ?_)
  · (try dsimp only)
    first | exact ⟨d0, d1⟩ | exact ⟨m0, m1⟩ | exact ⟨p0, p1⟩ | exact ⟨s0, s1⟩ | exact ⟨r0, r1⟩
  clear hK K hHeld0
  (try simp only [Act.put, List.setIfInBounds_toArray, List.set_cons_zero, List.set_cons_succ])
  refine wpAnyH_take (i := 6) (oi := ⟨some 11, _, _, _, _, _⟩) (v := ?_) rfl (by kernel_rfl) (by kernel_rfl) (by kernel_rfl) (fun _ _ _ h => h) (Or.inl ⟨by kernel_rfl, ?_⟩) (by assumption) ?_
  rotate_left
  · (intro w hSw; (try dsimp only at hSw); go_simp; (first | done | with_reducible rfl))
  (try simp only [Act.put, List.setIfInBounds_toArray, List.set_cons_zero, List.set_cons_succ])
  refine wpAnyH_ready (rs := [7]) (by kernel_rfl) (by simp) ?_
  refine AllReadyH.cons rfl (fun K hK => ?_) AllReadyH.nil
  go_simp
  refine hK.out _ _ ?_ (fun hHeld2 => ?_)
  · (try dsimp only)
    first | exact ⟨d0, d1⟩ | exact ⟨m0, m1⟩ | exact ⟨p0, p1⟩ | exact ⟨s0, s1⟩ | exact ⟨r0, r1⟩
  clear hK K hHeld1
  (try simp only [Act.put, List.setIfInBounds_toArray, List.set_cons_zero, List.set_cons_succ])
  refine wpAnyH_done (by kernel_rfl) ?_ _
  have HT := two_sets HR.out.1 HR.out.2.1 hnW hkn hkF HR.out.2.2.1 (u := .string f) (v := .int .i64 no)
  try clear hHeld2
  first
    | (have HU := HT.1
       obtain ⟨W2, hW2⟩ : ∃ W2, ((W1.setCell ⟨n, 7, none⟩ (.string f)).setCell ⟨n, 8, none⟩ (.int .i64 no)).drew = W2 := ⟨_, rfl⟩
       rw [hW2] at HU
       rw [hW2])
    | (have HU := HT.2
       obtain ⟨W2, hW2⟩ : ∃ W2, ((W1.setCell ⟨n, 8, none⟩ (.int .i64 no)).setCell ⟨n, 7, none⟩ (.string f)).drew = W2 := ⟨_, rfl⟩
       rw [hW2] at HU
       rw [hW2])
  clear HT hW2
  obtain ⟨hC2, h2, hT2, hX2⟩ := HU
  have hx2 : Forest W2 F (.slice As x.spans.length cs) x.spans ∧ RowsF W2 F (.slice Ar x.rows.length cr) x.rows := ⟨HR.out.2.2.2.1.chg hC2 (fun _ h => h) (fun k hk e => hkF (e ▸ hk)), RowsF.stays.go HR.out.2.2.2.2 hC2 (fun _ h => h) (fun k hk e => hkF (e ▸ hk))⟩
  clear m0 m1 p0 p1 s0 s1 r0 r1 m8 p7 g7 g8 b0 b1 b2 b3 b4 b5 b6 b7 b8 d0 d1
  obtain ⟨kvs, hk1, hk2, hk3⟩ := h2.bl
  have c2 := h2.hold.cell 2
  have f2 := h2.hold.free 2
  simp at c2
  have hb1 : rb < W2.heap.size := h2.hold.lt
  have hkr : (Value.slice A bs.length c).ownBlock ≠ some rb := fun e => (h2.oB rb e).2 rfl
  have hknB : (Value.slice A bs.length c).ownBlock ≠ some n := fun e => hkn (h2.oB n e).1
  have hrn : rb ≠ n := fun e => hkn (e ▸ h2.oR)
  have e2 : (W2.alloc (.cells #[.int .u8 (x.kind : Int), .int .i64 (x.level : Int), .bool x.ordered, .string x.label, .string x.text, .slice As x.spans.length cs, .slice Ar x.rows.length cr, .string f, .int .i64 no] 35)).cell? ⟨rb, 2, none⟩ = some (.slice A bs.length c) := by rw [World.cell?_alloc_lt _ _ _ hb1]; exact c2
  have hXa := hX2.alloc (.cells #[.int .u8 (x.kind : Int), .int .i64 (x.level : Int), .bool x.ordered, .string x.label, .string x.text, .slice As x.spans.length cs, .slice Ar x.rows.length cr, .string f, .int .i64 no] 35)
  have HB := Lib.hid (And.intro h2 (And.intro hT2 (And.intro hx2 (And.intro hk1 (And.intro hk2 hk3)))))
  have HC2 := Lib.hid hC2
  clear h2 hT2 hx2 hk1 hk2 hk3 hC2
  go_wp2_with fail
  refine wp_region_held_drew (S := (fun w' => w'.cell? ⟨n, 0, none⟩ = some (.int .u8 (x.kind : Int)) ∧ w'.cell? ⟨n, 1, none⟩ = some (.int .i64 (x.level : Int)) ∧ w'.cell? ⟨n, 2, none⟩ = some (.bool x.ordered) ∧ w'.cell? ⟨n, 3, none⟩ = some (.string x.label) ∧ w'.cell? ⟨n, 4, none⟩ = some (.string x.text) ∧ w'.cell? ⟨n, 5, none⟩ = some (.slice As x.spans.length cs) ∧ w'.cell? ⟨n, 6, none⟩ = some (.slice Ar x.rows.length cr) ∧ w'.cell? ⟨n, 7, none⟩ = some (.string f) ∧ w'.cell? ⟨n, 8, none⟩ = some (.int .i64 no))) (by kernel_rfl) ?_ (fun hHeld0 => ?_)
  · (try dsimp only)
    first | exact cells9 hX2 | exact cells9 hXa | exact cells9 hXg | exact cells9 hXs
  refine wpAnyH_take (i := 0) (oi := ⟨some 12, _, _, _, _, _⟩) (v := ?_) rfl (by kernel_rfl) (by kernel_rfl) (by kernel_rfl) (fun _ _ _ h => h) (Or.inl ⟨by kernel_rfl, ?_⟩) (by assumption) ?_
  rotate_left
  · (intro w hSw; (try dsimp only at hSw); go_simp; (first | done | with_reducible rfl))
  (try simp only [Act.put, List.setIfInBounds_toArray, List.set_cons_zero, List.set_cons_succ])
  refine wpAnyH_take (i := 1) (oi := ⟨some 13, _, _, _, _, _⟩) (v := ?_) rfl (by kernel_rfl) (by kernel_rfl) (by kernel_rfl) (fun _ _ _ h => h) (Or.inl ⟨by kernel_rfl, ?_⟩) (by assumption) ?_
  rotate_left
  · (intro w hSw; (try dsimp only at hSw); go_simp; (first | done | with_reducible rfl))
  (try simp only [Act.put, List.setIfInBounds_toArray, List.set_cons_zero, List.set_cons_succ])
  refine wpAnyH_take (i := 2) (oi := ⟨some 14, _, _, _, _, _⟩) (v := ?_) rfl (by kernel_rfl) (by kernel_rfl) (by kernel_rfl) (fun _ _ _ h => h) (Or.inl ⟨by kernel_rfl, ?_⟩) (by assumption) ?_
  rotate_left
  · (intro w hSw; (try dsimp only at hSw); go_simp; (first | done | with_reducible rfl))
  (try simp only [Act.put, List.setIfInBounds_toArray, List.set_cons_zero, List.set_cons_succ])
  refine wpAnyH_take (i := 3) (oi := ⟨some 15, _, _, _, _, _⟩) (v := ?_) rfl (by kernel_rfl) (by kernel_rfl) (by kernel_rfl) (fun _ _ _ h => h) (Or.inl ⟨by kernel_rfl, ?_⟩) (by assumption) ?_
  rotate_left
  · (intro w hSw; (try dsimp only at hSw); go_simp; (first | done | with_reducible rfl))
  (try simp only [Act.put, List.setIfInBounds_toArray, List.set_cons_zero, List.set_cons_succ])
  refine wpAnyH_take (i := 5) (oi := ⟨some 17, _, _, _, _, _⟩) (v := ?_) rfl (by kernel_rfl) (by kernel_rfl) (by kernel_rfl) (fun _ _ _ h => h) (Or.inl ⟨by kernel_rfl, ?_⟩) (by assumption) ?_
  rotate_left
  · (intro w hSw; (try dsimp only at hSw); go_simp; (first | done | with_reducible rfl))
  (try simp only [Act.put, List.setIfInBounds_toArray, List.set_cons_zero, List.set_cons_succ])
  refine wpAnyH_ready (rs := [4, 6]) (by kernel_rfl) (by simp) ?_
  refine AllReadyH.cons (o := ⟨some 16, _, _, _, _, _⟩) rfl (fun K hK => ?_) ?_
  · skip
    go_simp
    refine hK.out _ _ ?_ (fun hHeld1 => ?_)
    · (try dsimp only)
      first | exact cells9 hX2 | exact cells9 hXa | exact cells9 hXg | exact cells9 hXs
    clear hK K hHeld0
    (try simp only [Act.put, List.setIfInBounds_toArray, List.set_cons_zero, List.set_cons_succ])
    refine wpAnyH_ready (rs := [6]) (by kernel_rfl) (by simp) ?_
    refine AllReadyH.cons (o := ⟨some 18, _, _, _, _, _⟩) rfl (fun K hK => ?_) AllReadyH.nil
    go_simp
    refine hK.out _ _ ?_ (fun hHeld2 => ?_)
    · (try dsimp only)
      first | exact cells9 hX2 | exact cells9 hXa | exact cells9 hXg | exact cells9 hXs
    clear hK K hHeld1
    (try simp only [Act.put, List.setIfInBounds_toArray, List.set_cons_zero, List.set_cons_succ])
    refine wpAnyH_ready (rs := [7]) (by kernel_rfl) (by simp) ?_
    refine AllReadyH.cons (o := ⟨some 19, _, _, _, _, _⟩) rfl (fun K hK => ?_) AllReadyH.nil
    refine step_append_lies _ (by rfl) _ _ _ (by rfl) 0 35 i0 _ 9 128 Tryz.underlying25 HZ.out.1 HZ.out.2.1 HZ.out.2.2.1 HZ.out.2.2.2 rfl (by omega) (.slice A bs.length c) bs.length (rowBl bs kvs) (by rfl) ((HB.out.2.2.2.2.1.alloc _).drew)
      ⟨W2.heap.size, 0, none⟩ 1 1 [.int .u8 (x.kind : Int), .int .i64 (x.level : Int), .bool x.ordered, .string x.label, .string x.text, .slice As x.spans.length cs, .slice Ar x.rows.length cr, .string f, .int .i64 no] (by rfl) (by rfl) (World.news_of_block (cs := #[.int .u8 (x.kind : Int), .int .i64 (x.level : Int), .bool x.ordered, .string x.label, .string x.text, .slice As x.spans.length cs, .slice Ar x.rows.length cr, .string f, .int .i64 no]) (t := 35) (fr := (0, 0)) (heap_alloc_new W2 _)) (by simp [Value.oneCell'])
      (by omega) (by unfold maxLen; omega) (by omega) (Nat.zero_le _) (W2.heap.size + 1) (by simp) ?_
    intro g cap w2 ho2 hg2 hat2 hl2
    have hC3 : Chg W2 w2 (fun b => (Value.slice A bs.length c).ownBlock = some b) := (((Chg.refl W2 _).alloc _).drew).trans (Chg.grown hg2) (fun _ _ h => h.symm)
    have hgb : g ≠ rb := fun e => by
      rcases hat2 with h | h
      · exact hkr (by rw [h, e])
      · omega
    have hgn : g ≠ n := fun e => by
      rcases hat2 with h | h
      · exact hknB (by rw [h, e])
      · have := hX2.lt; omega
    have hh2 := hC3.holds hkr HB.out.1.hold
    have hXg := hC3.holds hknB hX2
    have hXs := hXg.far (p := ⟨rb, 2, none⟩) (Ne.symm hrn) (.slice (some ⟨g, 0, none⟩) (bs.length + 1) cap)
    have g3 := hC3.cell (p := ⟨rb, 2, none⟩) hkr c2
    have q3 := hh2.free 2
    have HE := Lib.hid (And.intro hC3 (And.intro ho2 (And.intro hat2 hh2)))
    clear hC3 ho2 hat2 hh2 hg2
    refine hK.out _ _ ?_ (fun hHeld3 => ?_)
    · (try dsimp only)
      first | exact cells9 hX2 | exact cells9 hXa | exact cells9 hXg | exact cells9 hXs
    clear hK K hHeld2
    (try simp only [Act.put, List.setIfInBounds_toArray, List.set_cons_zero, List.set_cons_succ])
    refine wpAnyH_take (i := 8) (oi := ⟨some 20, _, _, _, _, _⟩) (v := ?_) rfl (by kernel_rfl) (by kernel_rfl) (by kernel_rfl) (fun _ _ _ h => h) (Or.inl ⟨by kernel_rfl, ?_⟩) (by assumption) ?_
    rotate_left
    · (intro w hSw; (try dsimp only at hSw); go_simp; (first | done | with_reducible rfl))
    (try simp only [Act.put, List.setIfInBounds_toArray, List.set_cons_zero, List.set_cons_succ])
    refine wpAnyH_take (i := 9) (oi := ⟨some 21, _, _, _, _, _⟩) (v := ?_) rfl (by kernel_rfl) (by kernel_rfl) (by kernel_rfl) (fun _ _ _ h => h) (Or.inl ⟨by kernel_rfl, ?_⟩) (by assumption) ?_
    rotate_left
    · (intro w hSw; (try dsimp only at hSw); go_simp; (first | done | with_reducible rfl))
    (try simp only [Act.put, List.setIfInBounds_toArray, List.set_cons_zero, List.set_cons_succ])
    refine wpAnyH_ready (rs := [10]) (by kernel_rfl) (by simp) ?_
    refine AllReadyH.cons rfl (fun K hK => ?_) AllReadyH.nil
    go_simp
    refine hK.out _ _ ?_ (fun hHeld4 => ?_)
    · (try dsimp only)
      first | exact cells9 hX2 | exact cells9 hXa | exact cells9 hXg | exact cells9 hXs
    clear hK K hHeld3
    (try simp only [Act.put, List.setIfInBounds_toArray, List.set_cons_zero, List.set_cons_succ])
    refine wpAnyH_done (by kernel_rfl) ?_ _
    go_wp2
    go_end0
    have hC := Chg.set w2 ⟨rb, 2, none⟩ (.slice (some ⟨g, 0, none⟩) (bs.length + 1) cap)
    have hall : Chg W2 (w2.setCell ⟨rb, 2, none⟩ (.slice (some ⟨g, 0, none⟩) (bs.length + 1) cap)) (fun b => b = rb ∨ (Value.slice A bs.length c).ownBlock = some b) :=
      (HE.out.1.mono (T := fun b => b = rb ∨ (Value.slice A bs.length c).ownBlock = some b) (fun k _ h => .inr h)).trans hC (fun k _ h => .inl h)
    obtain ⟨hq1, hq2⟩ := HB.out.1.added (x := x) (kv := (.slice As x.spans.length cs, .slice Ar x.rows.length cr)) HB.out.2.2.1 hall (HE.out.2.2.2.set 2 _) kvs HB.out.2.2.2.1 HB.out.2.2.2.2.2 (by
        unfold blCells
        rw [HFN.out.1, HFN.out.2]
        exact hC.owns HE.out.2.1 (fun k hk e => hgb ((show g = k from (by simpa [Value.ownBlock] using hk)).trans e))) (fun b hb => by
      have e1 : g = b := by simpa [Value.ownBlock] using hb
      rw [← e1]
      refine ⟨?_, by simpa [World.setCell] using hl2⟩
      rcases HE.out.2.2.1 with h | h
      · exact .inl h
      · exact .inr (by omega))
    exact ⟨rfl, _, _, hq1, HB.out.2.1.trans hq2⟩
  refine AllReadyH.cons (o := ⟨some 18, _, _, _, _, _⟩) rfl (fun K hK => ?_) AllReadyH.nil
  go_simp
  refine hK.out _ _ ?_ (fun hHeld1 => ?_)
  · (try dsimp only)
    first | exact cells9 hX2 | exact cells9 hXa | exact cells9 hXg | exact cells9 hXs
  clear hK K hHeld0
  (try simp only [Act.put, List.setIfInBounds_toArray, List.set_cons_zero, List.set_cons_succ])
  refine wpAnyH_ready (rs := [4]) (by kernel_rfl) (by simp) ?_
  refine AllReadyH.cons (o := ⟨some 16, _, _, _, _, _⟩) rfl (fun K hK => ?_) AllReadyH.nil
  go_simp
  refine hK.out _ _ ?_ (fun hHeld2 => ?_)
  · (try dsimp only)
    first | exact cells9 hX2 | exact cells9 hXa | exact cells9 hXg | exact cells9 hXs
  clear hK K hHeld1
  (try simp only [Act.put, List.setIfInBounds_toArray, List.set_cons_zero, List.set_cons_succ])
  refine wpAnyH_ready (rs := [7]) (by kernel_rfl) (by simp) ?_
  refine AllReadyH.cons (o := ⟨some 19, _, _, _, _, _⟩) rfl (fun K hK => ?_) AllReadyH.nil
  refine step_append_lies _ (by rfl) _ _ _ (by rfl) 0 35 i0 _ 9 128 Tryz.underlying25 HZ.out.1 HZ.out.2.1 HZ.out.2.2.1 HZ.out.2.2.2 rfl (by omega) (.slice A bs.length c) bs.length (rowBl bs kvs) (by rfl) ((HB.out.2.2.2.2.1.alloc _).drew)
    ⟨W2.heap.size, 0, none⟩ 1 1 [.int .u8 (x.kind : Int), .int .i64 (x.level : Int), .bool x.ordered, .string x.label, .string x.text, .slice As x.spans.length cs, .slice Ar x.rows.length cr, .string f, .int .i64 no] (by rfl) (by rfl) (World.news_of_block (cs := #[.int .u8 (x.kind : Int), .int .i64 (x.level : Int), .bool x.ordered, .string x.label, .string x.text, .slice As x.spans.length cs, .slice Ar x.rows.length cr, .string f, .int .i64 no]) (t := 35) (fr := (0, 0)) (heap_alloc_new W2 _)) (by simp [Value.oneCell'])
    (by omega) (by unfold maxLen; omega) (by omega) (Nat.zero_le _) (W2.heap.size + 1) (by simp) ?_
  intro g cap w2 ho2 hg2 hat2 hl2
  have hC3 : Chg W2 w2 (fun b => (Value.slice A bs.length c).ownBlock = some b) := (((Chg.refl W2 _).alloc _).drew).trans (Chg.grown hg2) (fun _ _ h => h.symm)
  have hgb : g ≠ rb := fun e => by
    rcases hat2 with h | h
    · exact hkr (by rw [h, e])
    · omega
  have hgn : g ≠ n := fun e => by
    rcases hat2 with h | h
    · exact hknB (by rw [h, e])
    · have := hX2.lt; omega
  have hh2 := hC3.holds hkr HB.out.1.hold
  have hXg := hC3.holds hknB hX2
  have hXs := hXg.far (p := ⟨rb, 2, none⟩) (Ne.symm hrn) (.slice (some ⟨g, 0, none⟩) (bs.length + 1) cap)
  have g3 := hC3.cell (p := ⟨rb, 2, none⟩) hkr c2
  have q3 := hh2.free 2
  have HE := Lib.hid (And.intro hC3 (And.intro ho2 (And.intro hat2 hh2)))
  clear hC3 ho2 hat2 hh2 hg2
  refine hK.out _ _ ?_ (fun hHeld3 => ?_)
  · (try dsimp only)
    first | exact cells9 hX2 | exact cells9 hXa | exact cells9 hXg | exact cells9 hXs
  clear hK K hHeld2
  (try simp only [Act.put, List.setIfInBounds_toArray, List.set_cons_zero, List.set_cons_succ])
  refine wpAnyH_take (i := 8) (oi := ⟨some 20, _, _, _, _, _⟩) (v := ?_) rfl (by kernel_rfl) (by kernel_rfl) (by kernel_rfl) (fun _ _ _ h => h) (Or.inl ⟨by kernel_rfl, ?_⟩) (by assumption) ?_
  rotate_left
  · (intro w hSw; (try dsimp only at hSw); go_simp; (first | done | with_reducible rfl))
  (try simp only [Act.put, List.setIfInBounds_toArray, List.set_cons_zero, List.set_cons_succ])
  refine wpAnyH_take (i := 9) (oi := ⟨some 21, _, _, _, _, _⟩) (v := ?_) rfl (by kernel_rfl) (by kernel_rfl) (by kernel_rfl) (fun _ _ _ h => h) (Or.inl ⟨by kernel_rfl, ?_⟩) (by assumption) ?_
  rotate_left
  · (intro w hSw; (try dsimp only at hSw); go_simp; (first | done | with_reducible rfl))
  (try simp only [Act.put, List.setIfInBounds_toArray, List.set_cons_zero, List.set_cons_succ])
  refine wpAnyH_ready (rs := [10]) (by kernel_rfl) (by simp) ?_
  refine AllReadyH.cons rfl (fun K hK => ?_) AllReadyH.nil
  go_simp
  refine hK.out _ _ ?_ (fun hHeld4 => ?_)
  · (try dsimp only)
    first | exact cells9 hX2 | exact cells9 hXa | exact cells9 hXg | exact cells9 hXs
  clear hK K hHeld3
  (try simp only [Act.put, List.setIfInBounds_toArray, List.set_cons_zero, List.set_cons_succ])
  refine wpAnyH_done (by kernel_rfl) ?_ _
  go_wp2
  go_end0
  have hC := Chg.set w2 ⟨rb, 2, none⟩ (.slice (some ⟨g, 0, none⟩) (bs.length + 1) cap)
  have hall : Chg W2 (w2.setCell ⟨rb, 2, none⟩ (.slice (some ⟨g, 0, none⟩) (bs.length + 1) cap)) (fun b => b = rb ∨ (Value.slice A bs.length c).ownBlock = some b) :=
    (HE.out.1.mono (T := fun b => b = rb ∨ (Value.slice A bs.length c).ownBlock = some b) (fun k _ h => .inr h)).trans hC (fun k _ h => .inl h)
  obtain ⟨hq1, hq2⟩ := HB.out.1.added (x := x) (kv := (.slice As x.spans.length cs, .slice Ar x.rows.length cr)) HB.out.2.2.1 hall (HE.out.2.2.2.set 2 _) kvs HB.out.2.2.2.1 HB.out.2.2.2.2.2 (by
      unfold blCells
      rw [HFN.out.1, HFN.out.2]
      exact hC.owns HE.out.2.1 (fun k hk e => hgb ((show g = k from (by simpa [Value.ownBlock] using hk)).trans e))) (fun b hb => by
    have e1 : g = b := by simpa [Value.ownBlock] using hb
    rw [← e1]
    refine ⟨?_, by simpa [World.setCell] using hl2⟩
    rcases HE.out.2.2.1 with h | h
    · exact .inl h
    · exact .inr (by omega))
  exact ⟨rfl, _, _, hq1, HB.out.2.1.trans hq2⟩
end Go.Proofs.YtcjmfjccjhdgjaaGreatDoor
namespace Go.Bd
open Go.RowKit
theorem FaultRow.at {w : World} {B : Nat} {v : Value} {l : List Nat} (h : FaultRow w B v l) {k x : Nat} (hx : l[k]? = some x) : ∃ g c, v = .slice (some ⟨g, 0, none⟩) l.length c ∧ g < w.heap.size ∧ w.cell? ⟨g, k, none⟩ = some (.int .i64 (x : Int)) := by
  have hlt := (List.getElem?_eq_some_iff.1 hx).1
  rcases h.2 with ⟨_, h1⟩ | ⟨g, cap, cur, rfl, h1, h2, h3, h4, h5, h6⟩
  · omega
  · refine ⟨g, cap, rfl, (Array.getElem?_eq_some_iff.1 h2).1, ?_⟩
    rw [cell_of_row w g k cur _ (0, 0) h2]
    have h7 : (cur.toList.take (l.length * 1))[k]? = some (.int .i64 (x : Int)) := by rw [h6]; simp [hx]
    rw [List.getElem?_take_of_lt (by omega)] at h7
    simpa using h7
theorem FaultRow.form {w : World} {B : Nat} {v : Value} {l : List Nat} (h : FaultRow w B v l) : ∃ A c, v = .slice A l.length c ∧ ∀ k, v.ownBlock = some k → B ≤ k ∧ k < w.heap.size := by
  rcases h.2 with ⟨h0, h1⟩ | ⟨g, cap, cur, h0, h1, h2, _⟩
  · exact ⟨none, 0, by rw [h0, h1], by rw [h0]; intro k hk; cases hk⟩
  · refine ⟨_, _, h0, ?_⟩
    rw [h0]
    intro k hk
    have e : g = k := by simpa [Value.ownBlock] using hk
    exact e ▸ ⟨h1, (Array.getElem?_eq_some_iff.1 h2).1⟩
def Glob (m : Int) (w : World) : Prop := w.cell? ⟨0, 0, none⟩ = some (.int .i64 m) ∧ Lib.Utf8Tabs 1 2 w
theorem Glob.chg {m : Int} {w w' : World} {S : Nat → Prop} (h : Glob m w) (hc : Chg w w' S) (h3 : ∀ k, S k → 3 ≤ k) : Glob m w' := by
  have n0 : ¬ S 0 := fun e => by have := h3 _ e; omega
  have n1 : ¬ S 1 := fun e => by have := h3 _ e; omega
  have n2 : ¬ S 2 := fun e => by have := h3 _ e; omega
  exact ⟨hc.cell n0 h.1, fun c hcc => hc.cell n1 (h.2.1 c hcc), fun i hi => ⟨hc.cell n2 (h.2.2 i hi).1, hc.cell n2 (h.2.2 i hi).2⟩⟩
end Go.Bd
namespace Go.Proofs.YtcjmfjccjhdgjaaGreatDoor
open Go.RowKit Go.Bd
def dgOf (f : ByteArray) (no : Int) (s : ByteArray) (k : Nat) : Dg := ⟨f, no, k, s⟩
set_option maxRecDepth 100000 in
set_option maxHeartbeats 4000000 in
theorem bspansX_any {w : World} {O F : Nat → Prop} {rb : Nat} {lv : Value} {pos : Nat} {bv : Value} {bs : List Bl} {dv : Value} {ds : List Dg} (h : Rdr w O F rb lv pos bv bs dv ds) (f t : ByteArray) (no : Int) (s : ByteArray) (hs : s.size ≤ 100000) {m : Int} (hm : Glob m w) (hl : ds.length + (faultsOf s.data.toList).length ≤ 1000000) :
    Calls Tryz.prog 33 #[.pointer (some ⟨rb, 0, none⟩), .agg #[.string f, .int .i64 no, .string t], .string s] w fun e w' => ∃ sv O' F' dv', e = .returned sv ∧ Forest w' F' sv (spansOf s.data.toList) ∧ Rdr w' O' F' rb lv pos bv bs dv' (ds ++ (faultsOf s.data.toList).map (dgOf f no s)) ∧ Turn w w' O F O' F' ∧ (faultsOf s.data.toList = [] → dv' = dv) := by
  have h1 := h.below ((Below.refl _ w).alloc (Nat.le_refl _) (.cells #[.string f, .int .i64 no, .string t] 62))
  have hX := Holds.new w 62 #[.string f, .int .i64 no, .string t]
  have hm1 := hm.chg ((Chg.refl w (fun _ => False)).alloc (.cells #[.string f, .int .i64 no, .string t] 62)) (fun _ h => h.elim)
  have hB1 : Below w.heap.size w (w.alloc (.cells #[.string f, .int .i64 no, .string t] 62)) := (Below.refl _ w).alloc (Nat.le_refl _) _
  have hsz : (w.alloc (.cells #[.string f, .int .i64 no, .string t] 62)).heap.size = w.heap.size + 1 := by simp
  obtain ⟨n, hn⟩ : ∃ n, w.heap.size = n := ⟨_, rfl⟩
  rw [hn] at hX hsz
  obtain ⟨W1, hW1⟩ : ∃ W1, w.alloc (.cells #[.string f, .int .i64 no, .string t] 62) = W1 := ⟨_, rfl⟩
  rw [hW1] at h1 hX hsz hm1 hB1
  have PS := parseSpans_fresh s W1 hs m hm1.1
  obtain ⟨l, hle⟩ : ∃ l, faultsOf s.data.toList = l := ⟨_, rfl⟩
  obtain ⟨sp, hsp⟩ : ∃ sp, spansOf s.data.toList = sp := ⟨_, rfl⟩
  rw [hle] at hl ⊢ PS
  rw [hsp] at ⊢ PS
  have HO := Lib.hid h.ltO
  have HF := Lib.hid h.ltF
  have HSZ := Lib.hid (And.intro hn hsz)
  have HX := Lib.hid (And.intro h1 (And.intro hX hB1))
  clear h h1 hX hsz hm hm1 hB1 hle hsp
  go_enter Tryz.func33, Tryz.ntmps33
  go_wp2_with fail
  refine PS.mono ?_
  clear PS
  rintro e W2 ⟨sv, fv, rfl, hb2, hfo, hfr⟩
  (try rw [hn])
  clear hW1
  obtain ⟨A, c, rfl, hfb⟩ := hfr.form
  have hszz := hb2.size
  have h2 : Rdr W2 O (fun b => F b ∨ (W1.heap.size ≤ b ∧ b < W2.heap.size)) rb lv pos bv bs dv ds := (HX.out.1.below hb2).more (fun k hk => .inl hk) (fun k hk => by
    rcases hk with hk | hk
    · exact HX.out.1.off k hk
    · intro hO; have := HX.out.1.ltO k hO; omega) (fun k hk => by
    rcases hk with hk | hk
    · have := HX.out.1.ltF k hk; omega
    · exact hk.2)
  have hT2 : Turn w W2 O F O (fun b => F b ∨ (W1.heap.size ≤ b ∧ b < W2.heap.size)) := ⟨(Chg.below (by rw [hn]; exact hn ▸ HX.out.2.2) O).trans (Chg.below hb2 O) (fun k _ h => h), fun _ h => .inl h, fun k hk => by
    rcases hk with hk | hk
    · exact .inl hk
    · have := HSZ.out.2; have := HSZ.out.1; exact .inr (by omega), fun k hk => .inl hk⟩
  have hX2 := HX.out.2.1.below hb2 (HX.out.2.1.lt)
  have hfo2 : Forest W2 (fun b => F b ∨ (W1.heap.size ≤ b ∧ b < W2.heap.size)) sv sp := hfo.chg (Chg.refl W2 (fun _ => False)) (fun k hk => .inr hk) (fun _ _ h => h)
  obtain ⟨F1, hF1⟩ : ∃ F1, (fun b => F b ∨ (W1.heap.size ≤ b ∧ b < W2.heap.size)) = F1 := ⟨_, rfl⟩
  have hfF : ∀ k, (Value.slice A l.length c).ownBlock = some k → F1 k := fun k hk => by rw [← hF1]; exact .inr (hfb k hk)
  rw [hF1] at h2 hT2 hfo2
  have hnO : ¬ O n := fun e => by have := HO.out n e; have := HSZ.out.1; omega
  have HP := Lib.hid (And.intro hT2 (And.intro hX2 (And.intro hfo2 (And.intro hfF hfr))))
  have HQ := Lib.hid h2
  clear hT2 hX2 hfo2 hfo hfF hF1 h2 hfb hb2 hfr hszz
  go_wp2
  go_loopg [18] l.length (fun q vi wr => ∃ (k : Nat) (O1 : Nat → Prop) (dv1 : Value), k + q = l.length ∧ vi = .int .i64 (k : Int) ∧ Hid (Rdr wr O1 F1 rb lv pos bv bs dv1 (ds ++ (l.take k).map (dgOf f no s)) ∧ Turn W2 wr O F1 O1 F1 ∧ (k = 0 → dv1 = dv)))
  case atStart => exact ⟨0, O, dv, by omega, rfl, by simpa using HQ.out, Turn.refl _ _ _, fun _ => rfl⟩
  case round =>
    obtain ⟨k, O1, dv1, hk, rfl, HR⟩ := hrel
    by_cases hlt : k < l.length
    · obtain ⟨x, hx⟩ : ∃ x, l[k]? = some x := ⟨_, List.getElem?_eq_getElem hlt⟩
      have hfrW : FaultRow wr W1.heap.size (.slice A l.length c) l := HR.out.2.1.chg.owns HP.out.2.2.2.2 (fun k hk => HQ.out.off k (HP.out.2.2.2.1 k hk))
      obtain ⟨g, c1, hA, hgl, p0⟩ := FaultRow.at hfrW hx
      obtain ⟨rfl, rfl⟩ : A = some ⟨g, 0, none⟩ ∧ c = c1 := by cases hA; exact ⟨rfl, rfl⟩
      have hXw := HR.out.2.1.chg.holds hnO HP.out.2.1
      have d0 := hXw.cell 0
      have d1 := hXw.cell 1
      have d2 := hXw.cell 2
      simp at d0 d1 d2
      have ft := fault_any HR.out.1 f t no x s (by simp; omega)
      have HLN := Lib.hid hlt
      clear hfrW hXw hgl hA
      go_wp2_with fail
      refine ft.mono ?_
      clear ft
      rintro e w2 ⟨rfl, O2, dv2, hr2, ht2⟩
      have htk : (l.take (k + 1)).map (dgOf f no s) = (l.take k).map (dgOf f no s) ++ [dgOf f no s x] := by
        rw [List.take_add_one, hx]; simp
      have HR2 : Hid (Rdr w2 O2 F1 rb lv pos bv bs dv2 (ds ++ (l.take (k + 1)).map (dgOf f no s)) ∧ Turn W2 w2 O F1 O2 F1) := Lib.hid ⟨by rw [htk, ← List.append_assoc]; exact hr2, HR.out.2.1.trans ht2⟩
      clear hr2 ht2 htk
      go_wp2
      go_roundg (gk - 1)
      case measure => omega
      case rel => exact ⟨k + 1, O2, dv2, by omega, by go_num, HR2.out.1, HR2.out.2, fun e => absurd e (by omega)⟩
    · obtain rfl : k = l.length := by omega
      have HR2 := HR.out
      rw [List.take_length] at HR2
      have HR3 := Lib.hid HR2
      clear HR2
      go_wp2
      go_ret
      refine ⟨sv, O1, F1, dv1, rfl, ?_, HR3.out.1, HP.out.1.trans HR3.out.2.1, fun e => HR3.out.2.2 (by rw [e]; rfl)⟩
      exact HP.out.2.2.1.chg HR3.out.2.1.chg (fun _ h => h) (fun k hk => HQ.out.off k hk)
theorem bspans_any {w : World} {O F : Nat → Prop} {rb : Nat} {lv : Value} {pos : Nat} {bv : Value} {bs : List Bl} {dv : Value} {ds : List Dg} (h : Rdr w O F rb lv pos bv bs dv ds) (f t : ByteArray) (no : Int) (s : ByteArray) (hs : s.size ≤ 100000) {m : Int} (hm : Glob m w) (hl : ds.length + (faultsOf s.data.toList).length ≤ 1000000) :
    Calls Tryz.prog 33 #[.pointer (some ⟨rb, 0, none⟩), .agg #[.string f, .int .i64 no, .string t], .string s] w fun e w' => ∃ sv O' F' dv', e = .returned sv ∧ Forest w' F' sv (spansOf s.data.toList) ∧ Rdr w' O' F' rb lv pos bv bs dv' (ds ++ (faultsOf s.data.toList).map (dgOf f no s)) ∧ Turn w w' O F O' F' := by
  refine (bspansX_any h f t no s hs hm hl).mono ?_
  rintro e w' ⟨sv, O', F', dv', h1, h2, h3, h4, _⟩
  exact ⟨sv, O', F', dv', h1, h2, h3, h4⟩
end Go.Proofs.YtcjmfjccjhdgjaaGreatDoor
namespace Go.Bd
open Go.RowKit
theorem titleB_le (l : Bs) : (titleB l).1.length ≤ l.length := by
  unfold titleB
  split
  · exact Nat.le_refl _
  · split
    · unfold dropR
      have h1 := (List.dropWhile_sublist (p := blank) (l := (l.take (lastAny l [32, 9]).toNat).reverse)).length_le
      simp only [List.length_reverse, List.length_take] at h1 ⊢
      omega
    · exact Nat.le_refl _
theorem Glob.three {m : Int} {w : World} (h : Glob m w) : 3 ≤ w.heap.size := by
  have := World.block_lt_of_cell? w _ (h.2.2 0 (by omega)).1
  exact this
theorem Turn.offO {w w' : World} {O F O' F' : Nat → Prop} (h : Turn w w' O F O' F') {k : Nat} (hk : k < w.heap.size) (ho : ¬ O k) : ¬ O' k := fun e => by
  rcases h.inO k e with h1 | h1
  · exact ho h1
  · omega
theorem Turn.offF {w w' : World} {O F O' F' : Nat → Prop} (h : Turn w w' O F O' F') {k : Nat} (hk : k < w.heap.size) (ho : ¬ F k) : ¬ F' k := fun e => by
  rcases h.inF k e with h1 | h1
  · exact ho h1
  · omega
theorem Turn.poke {w0 w w' : World} {O F O' F' : Nat → Prop} {n : Nat} (h : Turn w0 w O F O' F') (hc : Chg w w' (fun k => k = n)) (hn : w0.heap.size ≤ n) : Turn w0 w' O F O' F' := ⟨h.chg.trans hc (fun k hk e => by omega), h.inO, h.inF, h.moF⟩
theorem cells3 {w : World} {x : Nat} {t : TypeId} {a b c : Value} (hh : Holds w x t #[a, b, c]) : w.cell? ⟨x, 0, none⟩ = some a ∧ w.cell? ⟨x, 1, none⟩ = some b ∧ w.cell? ⟨x, 2, none⟩ = some c := ⟨hh.cell 0, hh.cell 1, hh.cell 2⟩
end Go.Bd
namespace Go.Proofs.YtcjmfjccjhdgjaaGreatDoor
open Go.RowKit Go.Bd
def titledB (x : Bl) (f : ByteArray) (no : Int) (s : ByteArray) : Bl := { x with label := ⟨(titleB s.data.toList).2.1.toArray⟩, spans := spansOf (titleB s.data.toList).1, file := f, line := no }
def titledW (f : ByteArray) (no : Int) (s : ByteArray) : List Dg := if (titleB s.data.toList).2.2 = [] then [] else [⟨f, no, 10, ⟨(titleB s.data.toList).2.2.toArray⟩⟩]
def titledD (f : ByteArray) (no : Int) (s : ByteArray) : List Dg := titledW f no s ++ (faultsOf (titleB s.data.toList).1).map (dgOf f no ⟨(titleB s.data.toList).1.toArray⟩)
set_option maxRecDepth 100000 in
set_option maxHeartbeats 4000000 in
theorem titled_any {w : World} {O F : Nat → Prop} {rb : Nat} {lv : Value} {pos : Nat} {bv : Value} {bs : List Bl} {dv : Value} {ds : List Dg} (h : Rdr w O F rb lv pos bv bs dv ds) (x : Bl) (rv : Value) (hx : RowsF w F rv x.rows) (f t : ByteArray) (no : Int) (s : ByteArray) (hs : s.size ≤ 100000) {m : Int} (hm : Glob m w) (h3 : ∀ k, O k → 3 ≤ k)
    (hl : bs.length ≤ 1000000) (hd : ds.length + 1 + (faultsOf (titleB s.data.toList).1).length ≤ 1000000) :
    Calls Tryz.prog 38 #[.pointer (some ⟨rb, 0, none⟩), .agg #[.int .u8 (x.kind : Int), .int .i64 (x.level : Int), .bool x.ordered, .string ⟨#[]⟩, .string x.text, .slice none 0 0, rv, .string ⟨#[]⟩, .int .i64 0], .agg #[.string f, .int .i64 no, .string t], .string s] w fun e w' => e = .returned (.tuple #[]) ∧ ∃ O' F' bv' dv', Rdr w' O' F' rb lv pos bv' (bs ++ [titledB x f no s]) dv' (ds ++ titledD f no s) ∧ Turn w w' O F O' F' := by
  obtain ⟨Ar, cr, rfl, _⟩ := hx.len
  have hb12 := ((Below.refl w.heap.size w).alloc (Nat.le_refl _) (.cells #[.int .u8 (x.kind : Int), .int .i64 (x.level : Int), .bool x.ordered, .string ⟨#[]⟩, .string x.text, .slice none 0 0, .slice Ar x.rows.length cr, .string ⟨#[]⟩, .int .i64 0] 35)).alloc (by simp) (.cells #[.string f, .int .i64 no, .string t] 62)
  have h1 := h.below hb12
  have hX := (Holds.new w 35 #[.int .u8 (x.kind : Int), .int .i64 (x.level : Int), .bool x.ordered, .string ⟨#[]⟩, .string x.text, .slice none 0 0, .slice Ar x.rows.length cr, .string ⟨#[]⟩, .int .i64 0]).alloc (.cells #[.string f, .int .i64 no, .string t] 62)
  have hY := Holds.new (w.alloc (.cells #[.int .u8 (x.kind : Int), .int .i64 (x.level : Int), .bool x.ordered, .string ⟨#[]⟩, .string x.text, .slice none 0 0, .slice Ar x.rows.length cr, .string ⟨#[]⟩, .int .i64 0] 35)) 62 #[.string f, .int .i64 no, .string t]
  rw [World.size_alloc] at hY
  have hm1 := hm.chg (Chg.below hb12 (fun _ => False)) (fun _ h => h.elim)
  have hx1 := RowsF.stays.go hx (Chg.below hb12 (fun _ => False)) (fun _ h => h) (fun _ _ h => h)
  have hsz := Holds.lt hY
  have hT0 : Turn w _ O F O F := ⟨Chg.below hb12 O, fun _ h => .inl h, fun _ h => .inl h, fun _ h => h⟩
  obtain ⟨n, hn⟩ : ∃ n, w.heap.size = n := ⟨_, rfl⟩
  have hn3 : 3 ≤ n := hn ▸ hm.three
  rw [hn] at hX hY hsz
  obtain ⟨W1, hW1⟩ : ∃ W1, (w.alloc (.cells #[.int .u8 (x.kind : Int), .int .i64 (x.level : Int), .bool x.ordered, .string ⟨#[]⟩, .string x.text, .slice none 0 0, .slice Ar x.rows.length cr, .string ⟨#[]⟩, .int .i64 0] 35)).alloc (.cells #[.string f, .int .i64 no, .string t] 62) = W1 := ⟨_, rfl⟩
  rw [hW1] at h1 hX hY hx1 hT0 hm1 hsz
  have CT := title_any s W1 hs hm1.2
  have hle := titleB_le s.data.toList
  have hdl : s.data.toList.length = s.size := by simp
  unfold titledB titledD titledW
  obtain ⟨T, hT⟩ : ∃ T, titleB s.data.toList = T := ⟨_, rfl⟩
  rw [hT] at CT hle hd ⊢
  obtain ⟨D, hD⟩ : ∃ D : List Dg, (if T.2.2 = [] then [] else [⟨f, no, 10, ⟨T.2.2.toArray⟩⟩]) = D := ⟨_, rfl⟩
  rw [hD]
  have hts : T.1.length ≤ 100000 := by omega
  unfold strV at CT
  have hnO : ¬ O n := fun e => by have := h.ltO n e; omega
  have hnF : ¬ F n := fun e => by have := h.ltF n e; omega
  have hpO : ¬ O (n + 1) := fun e => by have := h.ltO (n + 1) e; omega
  have HR := Lib.hid (And.intro h1 (And.intro hT0 (And.intro hX (And.intro hY (And.intro hx1 hm1)))))
  have HSZ := Lib.hid (And.intro hn hsz)
  clear h h1 hT0 hX hY hx1 hm1 hb12 hx hm hT hle hdl hsz
  go_enter Tryz.func38, Tryz.ntmps38
  go_wp2_with fail
  refine CT.mono ?_
  clear CT
  rintro e W2 ⟨rfl, hb2⟩
  (try rw [hn])
  (try clear hW1)
  have hX2 := HR.out.2.2.1.below hb2 HR.out.2.2.1.lt
  have hY2 := HR.out.2.2.2.1.below hb2 HR.out.2.2.2.1.lt
  have h2 := HR.out.1.below hb2
  have hx2 := RowsF.stays.go HR.out.2.2.2.2.1 (Chg.below hb2 (fun _ => False)) (fun _ h => h) (fun _ _ h => h)
  have hm2 := HR.out.2.2.2.2.2.chg (Chg.below hb2 (fun _ => False)) (fun _ h => h.elim)
  have hT2 : Turn w W2 O F O F := HR.out.2.1.trans ⟨Chg.below hb2 O, fun _ h => .inl h, fun _ h => .inl h, fun _ h => h⟩
  have hn2 : n + 1 < W2.heap.size := hY2.lt
  obtain ⟨d0, d1, d2⟩ := cells3 hY2
  have HB := Lib.hid (And.intro h2 (And.intro hT2 (And.intro hX2 (And.intro hY2 (And.intro hx2 hm2)))))
  clear h2 hT2 hX2 hY2 hx2 hm2 hb2
  by_cases hw : T.2.2 = []
  · rw [if_pos hw] at hD
    rw [hw]
    have hl1 : D.length ≤ 1 := by rw [← hD]; simp
    have HS : Hid (Rdr W2 O F rb lv pos bv bs dv (ds ++ D) ∧ Turn W2 W2 O F O F) := Lib.hid ⟨by rw [← hD, List.append_nil]; exact HB.out.1, Turn.refl _ _ _⟩
    clear d0 d1 d2
    have hX3 := HS.out.2.chg.holds hnO HB.out.2.2.1
    have hY3 := HS.out.2.chg.holds hpO HB.out.2.2.2.1
    have hx3 := RowsF.stays.go HB.out.2.2.2.2.1 HS.out.2.chg (fun _ h => h) (fun k hk ho => HB.out.1.off k hk ho)
    have hm3 := HB.out.2.2.2.2.2.chg HS.out.2.chg h3
    have hn1 : ¬ O n := HS.out.2.offO (by omega) hnO
    have hp1 : ¬ O (n + 1) := HS.out.2.offO (by omega) hpO
    have x3 := hX3.free 3
    have c3 := hX3.cell 3
    have hC4 : Chg W2 (W2.setCell ⟨n, 3, none⟩ (.string ⟨T.2.1.toArray⟩)) (fun k => k = n) := Chg.set W2 ⟨n, 3, none⟩ (.string ⟨T.2.1.toArray⟩)
    have hr4 := HS.out.1.chg hC4 (fun k hk e => hn1 (e ▸ hk)) (fun k hk e => hnF (e ▸ hk))
    have hX4 := hX3.set 3 (.string ⟨T.2.1.toArray⟩)
    have hY4 := hY3.far (p := ⟨n, 3, none⟩) (by simp) (.string ⟨T.2.1.toArray⟩)
    have hx4 := RowsF.stays.go hx3 hC4 (fun _ h => h) (fun k hk e => hnF (e ▸ hk))
    have hm4 := hm3.chg hC4 (fun k hk => by rw [hk]; exact hn3)
    have hn4 := hY4.lt
    obtain ⟨d0, d1, d2⟩ := cells3 hY4
    have CS := bspans_any hr4 f t no ⟨T.1.toArray⟩ (by rw [size_mk]; exact hts) hm4 (by rw [List.length_append, strV_data]; omega)
    rw [strV_data] at CS
    have HC := Lib.hid (And.intro hr4 (And.intro hX4 (And.intro hY4 (And.intro hx4 (And.intro hm4 (And.intro hC4 hn4))))))
    clear hX3 hY3 hx3 hm3 hr4 hX4 hY4 hx4 hm4 hC4 hn4
    go_wp2_with fail
    refine CS.mono ?_
    clear CS
    rintro e W5 ⟨sv, O2, F2, dv2, rfl, hfo, hr5, ht5⟩
    obtain ⟨As, cs, rfl, _⟩ := hfo.form
    have hn2' : n + 1 < (W2.setCell ⟨n, 3, none⟩ (.string ⟨T.2.1.toArray⟩)).heap.size := HC.out.2.2.2.2.2.2
    have hX5 := ht5.chg.holds hn1 HC.out.2.1
    have hY5 := ht5.chg.holds hp1 HC.out.2.2.1
    have hx5 := RowsF.stays.go HC.out.2.2.2.1 ht5.chg ht5.moF (fun k hk ho => HC.out.1.off k hk ho)
    have hnF5 : ¬ F2 n := ht5.offF (by omega) hnF
    have hnO5 : ¬ O2 n := ht5.offO (by omega) hn1
    have x5 := hX5.free 5
    have c5 := hX5.cell 5
    have hC6 : Chg W5 (W5.setCell ⟨n, 5, none⟩ (.slice As (spansOf T.1).length cs)) (fun k => k = n) := Chg.set W5 ⟨n, 5, none⟩ (.slice As (spansOf T.1).length cs)
    have hr6 := hr5.chg hC6 (fun k hk e => hnO5 (e ▸ hk)) (fun k hk e => hnF5 (e ▸ hk))
    have hX6 := hX5.set 5 (.slice As (spansOf T.1).length cs)
    have hY6 := hY5.far (p := ⟨n, 5, none⟩) (by simp) (.slice As (spansOf T.1).length cs)
    have hfo6 := hfo.chg hC6 (fun _ h => h) (fun k hk e => hnF5 (e ▸ hk))
    have hx6 := RowsF.stays.go hx5 hC6 (fun _ h => h) (fun k hk e => hnF5 (e ▸ hk))
    simp only [List.setIfInBounds_toArray, List.set_cons_succ, List.set_cons_zero] at hX6
    obtain ⟨b0, b1, b2, b3, b4, b5, b6, b7, b8⟩ := cells9 hX6
    obtain ⟨q0, q1, q2⟩ := cells3 hY6
    have CA := badd_any hr6 { x with label := ⟨T.2.1.toArray⟩, spans := spansOf T.1, file := f, line := no } (.slice As (spansOf T.1).length cs) (.slice Ar x.rows.length cr) ⟨hfo6, hx6⟩ f t ⟨#[]⟩ no 0 hl rfl rfl
    simp only [] at CA
    have HD := Lib.hid (And.intro ht5 (And.intro hC6 (And.intro hnO5 hnF5)))
    clear hfo hr5 ht5 hX5 hY5 hx5 hr6 hX6 hY6 hfo6 hx6 hC6 d0 d1 d2
    go_wp2_with fail
    refine CA.mono ?_
    clear CA
    rintro e W7 ⟨rfl, O3, bv3, hr7, ht7⟩
    go_wp2
    go_end0
    refine ⟨rfl, O3, F2, bv3, dv2, by rw [← List.append_assoc]; exact hr7, ?_⟩
    have hn0 : w.heap.size ≤ n := Nat.le_of_eq HSZ.out.1
    exact (((((HB.out.2.1.trans HS.out.2).poke HC.out.2.2.2.2.2.1 hn0).trans HD.out.1).poke HD.out.2.1 hn0).trans ht7)
  · rw [if_neg hw] at hD
    have hl1 : D.length ≤ 1 := by rw [← hD]; simp
    have hw2 : (⟨T.2.2.toArray⟩ : ByteArray) ≠ ⟨#[]⟩ := fun e => hw (by simpa using congrArg (fun b : ByteArray => b.data.toList) e)
    have hwe : T.2.2.isEmpty = false := by simpa using hw
    have CF := fault_any HB.out.1 f t no 10 ⟨T.2.2.toArray⟩ (by omega)
    have e10 : ((10 : Nat) : Int) = 10 := rfl
    rw [e10] at CF
    clear e10
    go_wp2_with fail
    refine CF.mono ?_
    clear CF
    rintro e W3 ⟨rfl, O1, dv1, hr3, ht3⟩
    have HS : Hid (Rdr W3 O1 F rb lv pos bv bs dv1 (ds ++ D) ∧ Turn W2 W3 O F O1 F) := Lib.hid ⟨by rw [← hD]; exact hr3, ht3⟩
    clear hr3 ht3 d0 d1 d2
    have hX3 := HS.out.2.chg.holds hnO HB.out.2.2.1
    have hY3 := HS.out.2.chg.holds hpO HB.out.2.2.2.1
    have hx3 := RowsF.stays.go HB.out.2.2.2.2.1 HS.out.2.chg (fun _ h => h) (fun k hk ho => HB.out.1.off k hk ho)
    have hm3 := HB.out.2.2.2.2.2.chg HS.out.2.chg h3
    have hn1 : ¬ O1 n := HS.out.2.offO (by omega) hnO
    have hp1 : ¬ O1 (n + 1) := HS.out.2.offO (by omega) hpO
    have x3 := hX3.free 3
    have c3 := hX3.cell 3
    have hC4 : Chg W3 (W3.setCell ⟨n, 3, none⟩ (.string ⟨T.2.1.toArray⟩)) (fun k => k = n) := Chg.set W3 ⟨n, 3, none⟩ (.string ⟨T.2.1.toArray⟩)
    have hr4 := HS.out.1.chg hC4 (fun k hk e => hn1 (e ▸ hk)) (fun k hk e => hnF (e ▸ hk))
    have hX4 := hX3.set 3 (.string ⟨T.2.1.toArray⟩)
    have hY4 := hY3.far (p := ⟨n, 3, none⟩) (by simp) (.string ⟨T.2.1.toArray⟩)
    have hx4 := RowsF.stays.go hx3 hC4 (fun _ h => h) (fun k hk e => hnF (e ▸ hk))
    have hm4 := hm3.chg hC4 (fun k hk => by rw [hk]; exact hn3)
    have hn4 := hY4.lt
    obtain ⟨d0, d1, d2⟩ := cells3 hY4
    have CS := bspans_any hr4 f t no ⟨T.1.toArray⟩ (by rw [size_mk]; exact hts) hm4 (by rw [List.length_append, strV_data]; omega)
    rw [strV_data] at CS
    have HC := Lib.hid (And.intro hr4 (And.intro hX4 (And.intro hY4 (And.intro hx4 (And.intro hm4 (And.intro hC4 hn4))))))
    clear hX3 hY3 hx3 hm3 hr4 hX4 hY4 hx4 hm4 hC4 hn4
    go_wp2_with fail
    refine CS.mono ?_
    clear CS
    rintro e W5 ⟨sv, O2, F2, dv2, rfl, hfo, hr5, ht5⟩
    obtain ⟨As, cs, rfl, _⟩ := hfo.form
    have hn2' : n + 1 < (W3.setCell ⟨n, 3, none⟩ (.string ⟨T.2.1.toArray⟩)).heap.size := HC.out.2.2.2.2.2.2
    have hX5 := ht5.chg.holds hn1 HC.out.2.1
    have hY5 := ht5.chg.holds hp1 HC.out.2.2.1
    have hx5 := RowsF.stays.go HC.out.2.2.2.1 ht5.chg ht5.moF (fun k hk ho => HC.out.1.off k hk ho)
    have hnF5 : ¬ F2 n := ht5.offF (by omega) hnF
    have hnO5 : ¬ O2 n := ht5.offO (by omega) hn1
    have x5 := hX5.free 5
    have c5 := hX5.cell 5
    have hC6 : Chg W5 (W5.setCell ⟨n, 5, none⟩ (.slice As (spansOf T.1).length cs)) (fun k => k = n) := Chg.set W5 ⟨n, 5, none⟩ (.slice As (spansOf T.1).length cs)
    have hr6 := hr5.chg hC6 (fun k hk e => hnO5 (e ▸ hk)) (fun k hk e => hnF5 (e ▸ hk))
    have hX6 := hX5.set 5 (.slice As (spansOf T.1).length cs)
    have hY6 := hY5.far (p := ⟨n, 5, none⟩) (by simp) (.slice As (spansOf T.1).length cs)
    have hfo6 := hfo.chg hC6 (fun _ h => h) (fun k hk e => hnF5 (e ▸ hk))
    have hx6 := RowsF.stays.go hx5 hC6 (fun _ h => h) (fun k hk e => hnF5 (e ▸ hk))
    simp only [List.setIfInBounds_toArray, List.set_cons_succ, List.set_cons_zero] at hX6
    obtain ⟨b0, b1, b2, b3, b4, b5, b6, b7, b8⟩ := cells9 hX6
    obtain ⟨q0, q1, q2⟩ := cells3 hY6
    have CA := badd_any hr6 { x with label := ⟨T.2.1.toArray⟩, spans := spansOf T.1, file := f, line := no } (.slice As (spansOf T.1).length cs) (.slice Ar x.rows.length cr) ⟨hfo6, hx6⟩ f t ⟨#[]⟩ no 0 hl rfl rfl
    simp only [] at CA
    have HD := Lib.hid (And.intro ht5 (And.intro hC6 (And.intro hnO5 hnF5)))
    clear hfo hr5 ht5 hX5 hY5 hx5 hr6 hX6 hY6 hfo6 hx6 hC6 d0 d1 d2
    go_wp2_with fail
    refine CA.mono ?_
    clear CA
    rintro e W7 ⟨rfl, O3, bv3, hr7, ht7⟩
    go_wp2
    go_end0
    refine ⟨rfl, O3, F2, bv3, dv2, by rw [← List.append_assoc]; exact hr7, ?_⟩
    have hn0 : w.heap.size ≤ n := Nat.le_of_eq HSZ.out.1
    exact (((((HB.out.2.1.trans HS.out.2).poke HC.out.2.2.2.2.2.1 hn0).trans HD.out.1).poke HD.out.2.1 hn0).trans ht7)
end Go.Proofs.YtcjmfjccjhdgjaaGreatDoor
namespace Go.Bd
open Go.RowKit
def untilN (st : Bs → Bool) : List Ln → Nat
  | [] => 0
  | x :: l => if st (trim x.text.data.toList) = true then 0 else untilN st l + 1
theorem untilN_le (st : Bs → Bool) : ∀ l, untilN st l ≤ l.length
  | [] => Nat.le_refl _
  | x :: l => by
    have := untilN_le st l
    unfold untilN
    split <;> simp <;> omega
theorem LinesAt.at {w : World} {L : Nat → Prop} {v : Value} {ls : List Ln} (h : LinesAt w L v ls) {k : Nat} {x : Ln} (hx : ls[k]? = some x) : ∃ b off c, v = .slice (some ⟨b, off, none⟩) ls.length c ∧ ls.length ≤ c ∧ L b ∧ w.cell? ⟨b, off + k * 3, none⟩ = some (.string x.file) ∧ w.cell? ⟨b, off + k * 3 + 1, none⟩ = some (.int .i64 x.no) ∧ w.cell? ⟨b, off + k * 3 + 2, none⟩ = some (.string x.text) := by
  obtain ⟨A, c, h1, h2, h3⟩ := h
  obtain ⟨b, off, rfl, h5, h6⟩ := h3 (fun e => by rw [e] at hx; simp at hx)
  exact ⟨b, off, c, h1, h2, h5, h6 k x hx 0 _ rfl, h6 k x hx 1 _ rfl, h6 k x hx 2 _ rfl⟩
theorem Rdr.moved {w : World} {O F : Nat → Prop} {rb : Nat} {lv : Value} {pos : Nat} {bv : Value} {bs : List Bl} {dv : Value} {ds : List Dg} (h : Rdr w O F rb lv pos bv bs dv ds) (q : Nat) : Rdr (w.setCell ⟨rb, 1, none⟩ (.int .i64 (q : Int))) O F rb lv q bv bs dv ds := by
  obtain ⟨kvs, h1, h2, h3⟩ := h.bl
  have hc : Chg w (w.setCell ⟨rb, 1, none⟩ (.int .i64 (q : Int))) (fun k => k = rb) := Chg.set w _ _
  have hF : ∀ k, F k → ¬ k = rb := fun k hk e => h.off k hk (e ▸ h.oR)
  refine ⟨by simpa using h.hold.set 1 (.int .i64 (q : Int)), ⟨kvs, h1, hc.owns h2 (fun k hk => (h.oB k hk).2), fun j x kv hx hk => ⟨(h3 j x kv hx hk).1.chg hc (fun _ h => h) hF, RowsF.stays.go (h3 j x kv hx hk).2 hc (fun _ h => h) hF⟩⟩, hc.owns h.dg (fun k hk => (h.oD k hk).2.1), h.oR, h.oB, h.oD, h.off, fun k hk => Nat.lt_of_lt_of_le (h.ltO k hk) hc.size, fun k hk => Nat.lt_of_lt_of_le (h.ltF k hk) hc.size⟩
theorem Rdr.turn {w : World} {O F : Nat → Prop} {rb : Nat} {lv : Value} {pos : Nat} {bv : Value} {bs : List Bl} {dv : Value} {ds : List Dg} (h : Rdr w O F rb lv pos bv bs dv ds) (q : Nat) : Turn w (w.setCell ⟨rb, 1, none⟩ (.int .i64 (q : Int))) O F O F :=
  ⟨(Chg.set w ⟨rb, 1, none⟩ (.int .i64 (q : Int))).mono (fun k _ hk => by have e : k = rb := hk; exact e ▸ h.oR), fun _ h => .inl h, fun _ h => .inl h, fun _ h => h⟩
theorem LinesAt.sub {w : World} {L : Nat → Prop} {A : Option Addr} {c n : Nat} {ls : List Ln} (h : LinesAt w L (.slice A n c) ls) {pos k : Nat} (hk : pos + k ≤ ls.length) : LinesAt w L (sliced A pos (pos + k) c 3) ((ls.drop pos).take k) := by
  obtain ⟨A1, c1, h1, h2, h3⟩ := h
  obtain ⟨rfl, rfl, rfl⟩ : A = A1 ∧ n = ls.length ∧ c = c1 := by cases h1; exact ⟨rfl, rfl, rfl⟩
  refine ⟨_, _, by unfold sliced; rw [Nat.add_sub_cancel_left, List.length_take, List.length_drop, Nat.min_eq_left (by omega)], by rw [List.length_take, List.length_drop]; omega, fun hn => ?_⟩
  have hk0 : k ≠ 0 := fun e => hn (by rw [e]; rfl)
  obtain ⟨b, off, rfl, h5, h6⟩ := h3 (fun e => by rw [e] at hk; simp at hk; omega)
  rw [if_neg (by omega)]
  refine ⟨b, off + pos * 3, by simp only [Option.map, Addr.add]; split <;> simp <;> omega, h5, fun j x hj i u hu => ?_⟩
  have hj2 : ls[pos + j]? = some x := by
    rw [List.getElem?_take] at hj
    split at hj
    · rw [List.getElem?_drop] at hj; exact hj
    · cases hj
  have := h6 (pos + j) x hj2 i u hu
  rw [Nat.add_mul, ← Nat.add_assoc off] at this
  exact this
end Go.Bd
namespace Go.Proofs.YtcjmfjccjhdgjaaGreatDoor
open Go.RowKit Go.Bd
set_option maxRecDepth 100000 in
set_option maxHeartbeats 4000000 in
theorem until_any {w : World} {O F L : Nat → Prop} {rb : Nat} {lv : Value} {pos : Nat} {bv : Value} {bs : List Bl} {dv : Value} {ds : List Dg} (h : Rdr w O F rb lv pos bv bs dv ds) {ls : List Ln} (hL : LinesAt w L lv ls) (hLO : ∀ k, L k → ¬ O k) (hLl : ∀ k, L k → k < w.heap.size)
    (hsz : ∀ x ∈ ls, x.text.size ≤ 100000) (hp : pos ≤ ls.length) (hn : ls.length ≤ 1000000) (fid : Nat) (hen : ∀ args w, Sem.run Tryz.prog (callFunc fid args) w = .ok (.enter fid args) w) (st : Bs → Bool) (hst : ∀ t W, t.length ≤ 100000 → Calls Tryz.prog fid #[strV t] W fun e W' => e = .returned (.bool (st t)) ∧ Below W.heap.size W W') :
    Calls Tryz.prog 60 #[.pointer (some ⟨rb, 0, none⟩), .func (.func fid) #[] #[]] w fun e w' => ∃ v, e = .returned (.tuple #[v, .bool (decide (pos + untilN st (ls.drop pos) < ls.length))]) ∧ LinesAt w' L v ((ls.drop pos).take (untilN st (ls.drop pos))) ∧ Rdr w' O F rb lv (pos + untilN st (ls.drop pos)) bv bs dv ds ∧ Turn w w' O F O F := by
  have p1 := h.hold.cell 1
  simp at p1
  obtain ⟨A, c, rfl, hc, _⟩ : ∃ A c, lv = .slice A ls.length c ∧ ls.length ≤ c ∧ True := by
    obtain ⟨A, c, h1, h2, _⟩ := hL
    exact ⟨A, c, h1, h2, trivial⟩
  have HR := Lib.hid (And.intro h (And.intro hL (And.intro hLO hLl)))
  have HS := Lib.hid (And.intro hsz hst)
  clear h hL hLO hLl hsz hst
  go_enter Tryz.func60, Tryz.ntmps60
  go_wp2
  clear p1
  go_loopg [] (ls.length - pos) (fun q wr => ∃ k, pos + k + q = ls.length ∧ Hid (untilN st (ls.drop pos) = untilN st (ls.drop (pos + k)) + k ∧ Rdr wr O F rb (.slice A ls.length c) (pos + k) bv bs dv ds ∧ Turn w wr O F O F))
  case atStart => exact ⟨0, by omega, by simp, HR.out.1, Turn.refl _ _ _⟩
  case round =>
    obtain ⟨k, hk, HK⟩ := hrel
    have p1 := HK.out.2.1.hold.cell 1
    have p0 := HK.out.2.1.hold.cell 0
    simp at p1 p0
    have hpc : ((pos : Int) + (k : Int)) = ((pos + k : Nat) : Int) := by omega
    obtain ⟨P, hP⟩ : ∃ P, pos + k = P := ⟨_, rfl⟩
    rw [hP] at HK hk
    rw [← Int.natCast_add, hP] at p1
    clear hpc
    have HPP := Lib.hid hP
    clear hP
    by_cases hlt : P < ls.length
    · obtain ⟨x, hx⟩ : ∃ x, ls[P]? = some x := ⟨_, List.getElem?_eq_getElem hlt⟩
      have hL2 := HR.out.2.1.chg HK.out.2.2.chg HR.out.2.2.1
      obtain ⟨b, off, c1, hA, _, hb, l0, l1, l2⟩ := hL2.at hx
      obtain ⟨rfl, rfl⟩ : A = some ⟨b, off, none⟩ ∧ c = c1 := by cases hA; exact ⟨rfl, rfl⟩
      have hxs := HS.out.1 x (List.mem_of_getElem? hx)
      have hbl : b < wr.heap.size := Nat.lt_of_lt_of_le (HR.out.2.2.2 b hb) HK.out.2.2.chg.size
      have hrl := HK.out.2.1.hold.lt
      clear hL2 hA
      go_wp2
      refine wp_region_held_drew (S := (fun w' => w'.cell? ⟨rb, 1, none⟩ = some (.int .i64 (P : Int)) ∧ w'.cell? ⟨rb, 0, none⟩ = some (.slice (some ⟨b, off, none⟩) ls.length c))) (by kernel_rfl) ?_ (fun hHeld0 => ?_)
      · (try dsimp only)
        exact ⟨p1, p0⟩
      refine wpAnyH_take (i := 0) (oi := ⟨some 11, _, _, _, _, _⟩) (v := ?_) rfl (by kernel_rfl) (by kernel_rfl) (by kernel_rfl) (fun _ _ _ h => h) (Or.inl ⟨by kernel_rfl, ?_⟩) (by assumption) ?_
      rotate_left
      · (intro w hSw; (try dsimp only at hSw); go_simp; (first | done | with_reducible rfl))
      (try simp only [Act.put, List.setIfInBounds_toArray, List.set_cons_zero, List.set_cons_succ])
      refine wpAnyH_take (i := 1) (oi := ⟨some 12, _, _, _, _, _⟩) (v := ?_) rfl (by kernel_rfl) (by kernel_rfl) (by kernel_rfl) (fun _ _ _ h => h) (Or.inl ⟨by kernel_rfl, ?_⟩) (by assumption) ?_
      rotate_left
      · (intro w hSw; (try dsimp only at hSw); go_simp; (first | done | with_reducible rfl))
      (try simp only [Act.put, List.setIfInBounds_toArray, List.set_cons_zero, List.set_cons_succ])
      refine wpAnyH_take (i := 2) (oi := ⟨some 13, _, _, _, _, _⟩) (v := ?_) rfl (by kernel_rfl) (by kernel_rfl) (by kernel_rfl) (fun _ _ _ h => h) (Or.inl ⟨by kernel_rfl, ?_⟩) (by assumption) ?_
      rotate_left
      · (intro w hSw; (try dsimp only at hSw); go_simp; (first | done | with_reducible rfl))
      (try simp only [Act.put, List.setIfInBounds_toArray, List.set_cons_zero, List.set_cons_succ])
      refine wpAnyH_take (i := 3) (oi := ⟨some 14, _, _, _, _, _⟩) (v := ?_) rfl (by kernel_rfl) (by kernel_rfl) (by kernel_rfl) (fun _ _ _ h => h) (Or.inl ⟨by kernel_rfl, ?_⟩) (by assumption) ?_
      rotate_left
      · (intro w hSw; (try dsimp only at hSw); go_simp; (first | done | with_reducible rfl))
      (try simp only [Act.put, List.setIfInBounds_toArray, List.set_cons_zero, List.set_cons_succ])
      refine wpAnyH_take (i := 4) (oi := ⟨some 15, _, _, _, _, _⟩) (v := ?_) rfl (by kernel_rfl) (by kernel_rfl) (by kernel_rfl) (fun _ _ _ h => h) (Or.inl ⟨by kernel_rfl, ?_⟩) (by assumption) ?_
      rotate_left
      · (intro w hSw; (try dsimp only at hSw); go_simp; (first | done | with_reducible rfl))
      (try simp only [Act.put, List.setIfInBounds_toArray, List.set_cons_zero, List.set_cons_succ])
      refine wpAnyH_take (i := 5) (oi := ⟨some 16, _, _, _, _, _⟩) (v := ?_) rfl (by kernel_rfl) (by kernel_rfl) (by kernel_rfl) (fun _ _ _ h => h) (Or.inl ⟨by kernel_rfl, ?_⟩) (by assumption) ?_
      rotate_left
      · (intro w hSw; (try dsimp only at hSw); go_simp; (first | done | with_reducible rfl))
      (try simp only [Act.put, List.setIfInBounds_toArray, List.set_cons_zero, List.set_cons_succ])
      refine wpAnyH_take (i := 6) (oi := ⟨some 17, _, _, _, _, _⟩) (v := ?_) rfl (by kernel_rfl) (by kernel_rfl) (by kernel_rfl) (fun _ _ _ h => h) (Or.inl ⟨by kernel_rfl, ?_⟩) (by assumption) ?_
      rotate_left
      · (intro w hSw; (try dsimp only at hSw); go_simp; (first | done | with_reducible rfl))
      (try simp only [Act.put, List.setIfInBounds_toArray, List.set_cons_zero, List.set_cons_succ])
      refine wpAnyH_take (i := 7) (oi := ⟨some 18, _, _, _, _, _⟩) (v := ?_) rfl (by kernel_rfl) (by kernel_rfl) (by kernel_rfl) (fun _ _ _ h => h) (Or.inl ⟨by kernel_rfl, ?_⟩) (by assumption) ?_
      rotate_left
      · (intro w hSw; (try dsimp only at hSw); go_simp; (first | done | with_reducible rfl))
      (try simp only [Act.put, List.setIfInBounds_toArray, List.set_cons_zero, List.set_cons_succ])
      refine wpAnyH_take (i := 8) (oi := ⟨some 19, _, _, _, _, _⟩) (v := ?_) rfl (by kernel_rfl) (by kernel_rfl) (by kernel_rfl) (fun _ _ _ h => h) (Or.inl ⟨by kernel_rfl, ?_⟩) (by assumption) ?_
      rotate_left
      · (intro w hSw; (try dsimp only at hSw); go_simp; (first | done | with_reducible rfl))
      (try simp only [Act.put, List.setIfInBounds_toArray, List.set_cons_zero, List.set_cons_succ])
      refine wpAnyH_take (i := 9) (oi := ⟨some 20, _, _, _, _, _⟩) (v := ?_) rfl (by kernel_rfl) (by kernel_rfl) (by kernel_rfl) (fun _ _ _ h => h) (Or.inl ⟨by kernel_rfl, ?_⟩) (by assumption) ?_
      rotate_left
      · (intro w hSw; (try dsimp only at hSw); go_simp; (first | done | with_reducible rfl))
      (try simp only [Act.put, List.setIfInBounds_toArray, List.set_cons_zero, List.set_cons_succ])
      refine wpAnyH_done (by kernel_rfl) ?_ _
      go_wp2_with fail
      have hts : (trim x.text.data.toList).length ≤ 100000 := by have := trim_size x.text; omega
      have hu : untilN st (ls.drop P) = if st (trim x.text.data.toList) = true then 0 else untilN st (ls.drop (P + 1)) + 1 := by
        rw [List.drop_eq_getElem_cons hlt]
        have e : ls[P] = x := by have := List.getElem?_eq_getElem hlt; rw [hx] at this; exact (Option.some.inj this).symm
        rw [e]
        rfl
      have HU := Lib.hid hu
      clear hu hx
      refine wp_region_held_drew (S := (fun w' => w'.cell? ⟨rb, 1, none⟩ = some (.int .i64 (P : Int)) ∧ w'.cell? ⟨rb, 0, none⟩ = some (.slice (some ⟨b, off, none⟩) ls.length c) ∧ w'.cell? ⟨b, off + P * 3, none⟩ = some (.string x.file) ∧ w'.cell? ⟨b, off + P * 3 + 1, none⟩ = some (.int .i64 x.no) ∧ w'.cell? ⟨b, off + P * 3 + 2, none⟩ = some (.string x.text))) (by kernel_rfl) ?_ (fun hHeld0 => ?_)
      · (try dsimp only)
        first | exact ⟨p1, p0, l0, l1, l2⟩ | exact K1 | exact K2
      refine wpAnyH_take (i := 0) (oi := ⟨some 28, _, _, _, _, _⟩) (v := ?_) rfl (by kernel_rfl) (by kernel_rfl) (by kernel_rfl) (fun _ _ _ h => h) (Or.inl ⟨by kernel_rfl, ?_⟩) (by assumption) ?_
      rotate_left
      · (intro w hSw; (try dsimp only at hSw); go_simp; (first | done | with_reducible rfl))
      (try simp only [Act.put, List.setIfInBounds_toArray, List.set_cons_zero, List.set_cons_succ])
      refine wpAnyH_take (i := 1) (oi := ⟨some 29, _, _, _, _, _⟩) (v := ?_) rfl (by kernel_rfl) (by kernel_rfl) (by kernel_rfl) (fun _ _ _ h => h) (Or.inl ⟨by kernel_rfl, ?_⟩) (by assumption) ?_
      rotate_left
      · (intro w hSw; (try dsimp only at hSw); go_simp; (first | done | with_reducible rfl))
      (try simp only [Act.put, List.setIfInBounds_toArray, List.set_cons_zero, List.set_cons_succ])
      refine wpAnyH_take (i := 2) (oi := ⟨some 30, _, _, _, _, _⟩) (v := ?_) rfl (by kernel_rfl) (by kernel_rfl) (by kernel_rfl) (fun _ _ _ h => h) (Or.inl ⟨by kernel_rfl, ?_⟩) (by assumption) ?_
      rotate_left
      · (intro w hSw; (try dsimp only at hSw); go_simp; (first | done | with_reducible rfl))
      (try simp only [Act.put, List.setIfInBounds_toArray, List.set_cons_zero, List.set_cons_succ])
      refine wpAnyH_take (i := 3) (oi := ⟨some 31, _, _, _, _, _⟩) (v := ?_) rfl (by kernel_rfl) (by kernel_rfl) (by kernel_rfl) (fun _ _ _ h => h) (Or.inl ⟨by kernel_rfl, ?_⟩) (by assumption) ?_
      rotate_left
      · (intro w hSw; (try dsimp only at hSw); go_simp; (first | done | with_reducible rfl))
      (try simp only [Act.put, List.setIfInBounds_toArray, List.set_cons_zero, List.set_cons_succ])
      refine wpAnyH_take (i := 4) (oi := ⟨some 32, _, _, _, _, _⟩) (v := ?_) rfl (by kernel_rfl) (by kernel_rfl) (by kernel_rfl) (fun _ _ _ h => h) (Or.inl ⟨by kernel_rfl, ?_⟩) (by assumption) ?_
      rotate_left
      · (intro w hSw; (try dsimp only at hSw); go_simp; (first | done | with_reducible rfl))
      (try simp only [Act.put, List.setIfInBounds_toArray, List.set_cons_zero, List.set_cons_succ])
      refine wpAnyH_take (i := 5) (oi := ⟨some 33, _, _, _, _, _⟩) (v := ?_) rfl (by kernel_rfl) (by kernel_rfl) (by kernel_rfl) (fun _ _ _ h => h) (Or.inl ⟨by kernel_rfl, ?_⟩) (by assumption) ?_
      rotate_left
      · (intro w hSw; (try dsimp only at hSw); go_simp; (first | done | with_reducible rfl))
      (try simp only [Act.put, List.setIfInBounds_toArray, List.set_cons_zero, List.set_cons_succ])
      refine wpAnyH_take (i := 6) (oi := ⟨some 34, _, _, _, _, _⟩) (v := ?_) rfl (by kernel_rfl) (by kernel_rfl) (by kernel_rfl) (fun _ _ _ h => h) (Or.inl ⟨by kernel_rfl, ?_⟩) (by assumption) ?_
      rotate_left
      · (intro w hSw; (try dsimp only at hSw); go_simp; (first | done | with_reducible rfl))
      (try simp only [Act.put, List.setIfInBounds_toArray, List.set_cons_zero, List.set_cons_succ])
      refine wpAnyH_take (i := 7) (oi := ⟨some 35, _, _, _, _, _⟩) (v := ?_) rfl (by kernel_rfl) (by kernel_rfl) (by kernel_rfl) (fun _ _ _ h => h) (Or.inl ⟨by kernel_rfl, ?_⟩) (by assumption) ?_
      rotate_left
      · (intro w hSw; (try dsimp only at hSw); go_simp; (first | done | with_reducible rfl))
      (try simp only [Act.put, List.setIfInBounds_toArray, List.set_cons_zero, List.set_cons_succ])
      refine wpAnyH_take (i := 8) (oi := ⟨some 36, _, _, _, _, _⟩) (v := ?_) rfl (by kernel_rfl) (by kernel_rfl) (by kernel_rfl) (fun _ _ _ h => h) (Or.inl ⟨by kernel_rfl, ?_⟩) (by assumption) ?_
      rotate_left
      · (intro w hSw; (try dsimp only at hSw); go_simp; (first | done | with_reducible rfl))
      (try simp only [Act.put, List.setIfInBounds_toArray, List.set_cons_zero, List.set_cons_succ])
      refine wpAnyH_take (i := 9) (oi := ⟨some 37, _, _, _, _, _⟩) (v := ?_) rfl (by kernel_rfl) (by kernel_rfl) (by kernel_rfl) (fun _ _ _ h => h) (Or.inl ⟨by kernel_rfl, ?_⟩) (by assumption) ?_
      rotate_left
      · (intro w hSw; (try dsimp only at hSw); go_simp; (first | done | with_reducible rfl))
      (try simp only [Act.put, List.setIfInBounds_toArray, List.set_cons_zero, List.set_cons_succ])
      refine wpAnyH_take (i := 10) (oi := ⟨some 38, _, _, _, _, _⟩) (v := ?_) rfl (by kernel_rfl) (by kernel_rfl) (by kernel_rfl) (fun _ _ _ h => h) (Or.inl ⟨by kernel_rfl, ?_⟩) (by assumption) ?_
      rotate_left
      · (intro w hSw; (try dsimp only at hSw); go_simp; (first | done | with_reducible rfl))
      (try simp only [Act.put, List.setIfInBounds_toArray, List.set_cons_zero, List.set_cons_succ])
      refine wpAnyH_ready (rs := [11]) (by kernel_rfl) (by simp) ?_
      refine AllReadyH.cons (o := ⟨some 39, _, _, _, _, _⟩) rfl (fun K hK => ?_) AllReadyH.nil
      go_simp
      refine (counted_any x.file x.text x.no _ hxs).mono ?_
      rintro e w1 ⟨rfl, hb1⟩
      have K1 := And.intro ((hb1.cell (p := ⟨rb, 1, none⟩) hrl).trans p1) (And.intro ((hb1.cell (p := ⟨rb, 0, none⟩) hrl).trans p0) (And.intro ((hb1.cell (p := ⟨b, off + P * 3, none⟩) hbl).trans l0) (And.intro ((hb1.cell (p := ⟨b, off + P * 3 + 1, none⟩) hbl).trans l1) ((hb1.cell (p := ⟨b, off + P * 3 + 2, none⟩) hbl).trans l2))))
      have hrl1 := Nat.lt_of_lt_of_le hrl hb1.size
      have hbl1 := Nat.lt_of_lt_of_le hbl hb1.size
      refine hK.out _ _ ?_ (fun hHeld1 => ?_)
      · (try dsimp only)
        first | exact ⟨p1, p0, l0, l1, l2⟩ | exact K1 | exact K2
      clear hK K hHeld0
      (try simp only [Act.put, List.setIfInBounds_toArray, List.set_cons_zero, List.set_cons_succ])
      refine wpAnyH_ready (rs := [12]) (by kernel_rfl) (by simp) ?_
      refine AllReadyH.cons (o := ⟨some 40, _, _, _, _, _⟩) rfl (fun K hK => ?_) AllReadyH.nil
      go_simp
      refine (HS.out.2 (trim x.text.data.toList) _ hts).mono ?_
      rintro e w2 ⟨rfl, hb2⟩
      have K2 := And.intro ((hb2.cell (p := ⟨rb, 1, none⟩) hrl1).trans K1.1) (And.intro ((hb2.cell (p := ⟨rb, 0, none⟩) hrl1).trans K1.2.1) (And.intro ((hb2.cell (p := ⟨b, off + P * 3, none⟩) hbl1).trans K1.2.2.1) (And.intro ((hb2.cell (p := ⟨b, off + P * 3 + 1, none⟩) hbl1).trans K1.2.2.2.1) ((hb2.cell (p := ⟨b, off + P * 3 + 2, none⟩) hbl1).trans K1.2.2.2.2))))
      refine hK.out _ _ ?_ (fun hHeld2 => ?_)
      · (try dsimp only)
        first | exact ⟨p1, p0, l0, l1, l2⟩ | exact K1 | exact K2
      clear hK K hHeld1
      (try simp only [Act.put, List.setIfInBounds_toArray, List.set_cons_zero, List.set_cons_succ])
      refine wpAnyH_done (by kernel_rfl) ?_ _
      have hC0 : Chg wr w2 (fun _ => False) := by
        first
        | exact (((Chg.refl wr (fun _ => False)).drew.drew).trans (Chg.below hb1 _) (fun k _ h => h)).trans (Chg.below hb2 _) (fun k _ h => h)
        | exact (((Chg.refl wr (fun _ => False)).drew).trans (Chg.below hb1 _) (fun k _ h => h)).trans (Chg.below hb2 _) (fun k _ h => h)
      have hr2 := HK.out.2.1.chg hC0 (fun _ _ h => h) (fun _ _ h => h)
      have ht2 : Turn w w2 O F O F := HK.out.2.2.trans ⟨hC0.mono (fun k _ h => h.elim), fun _ h => .inl h, fun _ h => .inl h, fun _ h => h⟩
      obtain ⟨p1', p0', _⟩ := K2
      have q1 := hr2.hold.free 1
      have HT := Lib.hid (And.intro hr2 ht2)
      clear hr2 ht2 hC0 K1 hb1 hb2 l0 l1 l2
      by_cases hse : st (trim x.text.data.toList) = true
      · have hu0 : untilN st (ls.drop pos) = k := by
          have h1 := HK.out.1
          have h2 := HU.out
          rw [if_pos hse] at h2
          rw [h2] at h1
          omega
        have HU0 := Lib.hid hu0
        clear hu0
        rw [hse]
        go_wp2_with fail
        have hPc : (pos : Int) ≤ (P : Int) := by have := HPP.out; omega
        have hPc2 : (P : Int) ≤ (c : Int) := by omega
        have hcn : ¬ c = pos := by have := HPP.out; omega
        refine wp_region_held_drew (S := (fun w' => w'.cell? ⟨rb, 1, none⟩ = some (.int .i64 (P : Int)) ∧ w'.cell? ⟨rb, 0, none⟩ = some (.slice (some ⟨b, off, none⟩) ls.length c))) (by kernel_rfl) ?_ (fun hHeld0 => ?_)
        · (try dsimp only)
          exact ⟨p1', p0'⟩
        refine wpAnyH_take (i := 0) (oi := ⟨some 41, _, _, _, _, _⟩) (v := ?_) rfl (by kernel_rfl) (by kernel_rfl) (by kernel_rfl) (fun _ _ _ h => h) (Or.inl ⟨by kernel_rfl, ?_⟩) (by assumption) ?_
        rotate_left
        · (intro w hSw; (try dsimp only at hSw); go_simp; (first | done | with_reducible rfl))
        (try simp only [Act.put, List.setIfInBounds_toArray, List.set_cons_zero, List.set_cons_succ])
        refine wpAnyH_take (i := 1) (oi := ⟨some 42, _, _, _, _, _⟩) (v := ?_) rfl (by kernel_rfl) (by kernel_rfl) (by kernel_rfl) (fun _ _ _ h => h) (Or.inl ⟨by kernel_rfl, ?_⟩) (by assumption) ?_
        rotate_left
        · (intro w hSw; (try dsimp only at hSw); go_simp; (first | done | with_reducible rfl))
        (try simp only [Act.put, List.setIfInBounds_toArray, List.set_cons_zero, List.set_cons_succ])
        refine wpAnyH_take (i := 2) (oi := ⟨some 43, _, _, _, _, _⟩) (v := ?_) rfl (by kernel_rfl) (by kernel_rfl) (by kernel_rfl) (fun _ _ _ h => h) (Or.inl ⟨by kernel_rfl, ?_⟩) (by assumption) ?_
        rotate_left
        · (intro w hSw; (try dsimp only at hSw); go_simp; (first | done | with_reducible rfl))
        (try simp only [Act.put, List.setIfInBounds_toArray, List.set_cons_zero, List.set_cons_succ])
        refine wpAnyH_take (i := 3) (oi := ⟨some 44, _, _, _, _, _⟩) (v := ?_) rfl (by kernel_rfl) (by kernel_rfl) (by kernel_rfl) (fun _ _ _ h => h) (Or.inl ⟨by kernel_rfl, ?_⟩) (by assumption) ?_
        rotate_left
        · (intro w hSw; (try dsimp only at hSw); go_simp; (first | done | with_reducible rfl))
        (try simp only [Act.put, List.setIfInBounds_toArray, List.set_cons_zero, List.set_cons_succ])
        refine wpAnyH_take (i := 4) (oi := ⟨some 45, _, _, _, _, _⟩) (v := ?_) rfl (by kernel_rfl) (by kernel_rfl) (by kernel_rfl) (fun _ _ _ h => h) (Or.inl ⟨by kernel_rfl, ?_⟩) (by assumption) ?_
        rotate_left
        · (intro w hSw; (try dsimp only at hSw); go_simp; (first | done | with_reducible rfl))
        (try simp only [Act.put, List.setIfInBounds_toArray, List.set_cons_zero, List.set_cons_succ])
        refine wpAnyH_take (i := 5) (oi := ⟨some 46, _, _, _, _, _⟩) (v := ?_) rfl (by kernel_rfl) (by kernel_rfl) (by kernel_rfl) (fun _ _ _ h => h) (Or.inl ⟨by kernel_rfl, ?_⟩) (by assumption) ?_
        rotate_left
        · (intro w hSw; (try dsimp only at hSw); go_simp; (first | done | with_reducible rfl))
        (try simp only [Act.put, List.setIfInBounds_toArray, List.set_cons_zero, List.set_cons_succ])
        refine wpAnyH_take (i := 6) (oi := ⟨some 47, _, _, _, _, _⟩) (v := ?_) rfl (by kernel_rfl) (by kernel_rfl) (by kernel_rfl) (fun _ _ _ h => h) (Or.inl ⟨by kernel_rfl, ?_⟩) (by assumption) ?_
        rotate_left
        · (intro w hSw; (try dsimp only at hSw); go_simp; (first | done | with_reducible rfl))
        (try simp only [Act.put, List.setIfInBounds_toArray, List.set_cons_zero, List.set_cons_succ])
        refine wpAnyH_take (i := 7) (oi := ⟨some 48, _, _, _, _, _⟩) (v := ?_) rfl (by kernel_rfl) (by kernel_rfl) (by kernel_rfl) (fun _ _ _ h => h) (Or.inl ⟨by kernel_rfl, ?_⟩) (by assumption) ?_
        rotate_left
        · (intro w hSw; (try dsimp only at hSw); go_simp; (first | done | with_reducible rfl))
        (try simp only [Act.put, List.setIfInBounds_toArray, List.set_cons_zero, List.set_cons_succ])
        refine wpAnyH_take (i := 8) (oi := ⟨some 49, _, _, _, _, _⟩) (v := ?_) rfl (by kernel_rfl) (by kernel_rfl) (by kernel_rfl) (fun _ _ _ h => h) (Or.inl ⟨by kernel_rfl, ?_⟩) (by assumption) ?_
        rotate_left
        · (intro w hSw; (try dsimp only at hSw); go_simp; (first | done | with_reducible rfl))
        (try simp only [Act.put, List.setIfInBounds_toArray, List.set_cons_zero, List.set_cons_succ])
        refine wpAnyH_take (i := 9) (oi := ⟨some 50, _, _, _, _, _⟩) (v := ?_) rfl (by kernel_rfl) (by kernel_rfl) (by kernel_rfl) (fun _ _ _ h => h) (Or.inl ⟨by kernel_rfl, ?_⟩) (by assumption) ?_
        rotate_left
        · (intro w hSw; (try dsimp only at hSw); go_simp; (first | done | with_reducible rfl))
        (try simp only [Act.put, List.setIfInBounds_toArray, List.set_cons_zero, List.set_cons_succ])
        refine wpAnyH_take (i := 10) (oi := ⟨some 4, _, _, _, _, _⟩) (v := ?_) rfl (by kernel_rfl) (by kernel_rfl) (by kernel_rfl) (fun _ _ _ h => h) (Or.inl ⟨by kernel_rfl, ?_⟩) (by assumption) ?_
        rotate_left
        · (intro w hSw; (try dsimp only at hSw); go_simp; (first | done | with_reducible rfl))
        (try simp only [Act.put, List.setIfInBounds_toArray, List.set_cons_zero, List.set_cons_succ])
        refine wpAnyH_take (i := 11) (oi := ⟨some 5, _, _, _, _, _⟩) (v := ?_) rfl (by kernel_rfl) (by kernel_rfl) (by kernel_rfl) (fun _ _ _ h => h) (Or.inl ⟨by kernel_rfl, ?_⟩) (by assumption) ?_
        rotate_left
        · (intro w hSw; (try dsimp only at hSw); go_simp; (first | done | with_reducible rfl))
        (try simp only [Act.put, List.setIfInBounds_toArray, List.set_cons_zero, List.set_cons_succ])
        refine wpAnyH_done (by kernel_rfl) ?_ _
        go_wp2
        go_ret2
        have hPP := HPP.out
        have hdec : decide (pos + untilN st (ls.drop pos) < ls.length) = true := decide_eq_true (by rw [HU0.out]; omega)
        rw [hdec, HU0.out, hPP]
        refine ⟨_, rfl, ?_, HT.out.1.chg (Chg.refl w2 (fun _ => False)).drew (fun _ _ h => h) (fun _ _ h => h), HT.out.2.trans ⟨(Chg.refl w2 O).drew, fun _ h => .inl h, fun _ h => .inl h, fun _ h => h⟩⟩
        have hLS := ((HR.out.2.1.chg HT.out.2.chg HR.out.2.2.1).chg (Chg.refl w2 (fun _ => False)).drew (fun _ _ h => h)).sub (pos := pos) (k := k) (by omega)
        have hv : sliced (some ⟨b, off, none⟩) pos (pos + k) c 3 = .slice (some ⟨b, off + pos * 3, none⟩) (P - pos) (c - pos) := by
          have e : pos + k - pos = P - pos := by omega
          simp only [sliced, if_neg hcn, Option.map, e, Addr.add]
          split <;> simp <;> omega
        rw [hv] at hLS
        exact hLS
      · have hu0 : untilN st (ls.drop pos) = untilN st (ls.drop (P + 1)) + (k + 1) := by
          have h1 := HK.out.1
          have h2 := HU.out
          rw [if_neg hse] at h2
          rw [h2] at h1
          omega
        have HU0 := Lib.hid hu0
        clear hu0
        have hse2 : st (trim x.text.data.toList) = false := by simpa using hse
        rw [hse2]
        go_wp2_with fail
        go_roundg (gk - 1)
        case measure => omega
        case rel =>
          have hPP := HPP.out
          refine ⟨k + 1, by omega, ?_⟩
          have e1 : pos + (k + 1) = P + 1 := by omega
          rw [e1]
          exact ⟨HU0.out, HT.out.1.moved (P + 1), HT.out.2.trans (HT.out.1.turn (P + 1))⟩
    · obtain rfl : P = ls.length := by omega
      have hu0 : untilN st (ls.drop pos) = k := by
        have h1 := HK.out.1
        rw [List.drop_length] at h1
        simpa [untilN] using h1
      have HU0 := Lib.hid hu0
      clear hu0
      have hPc : (pos : Int) ≤ (ls.length : Int) := by omega
      have hPP := HPP.out
      have hdec : decide (pos + untilN st (ls.drop pos) < ls.length) = false := decide_eq_false (by rw [HU0.out]; omega)
      have hLS : LinesAt wr.drew L (sliced A pos (pos + k) c 3) ((ls.drop pos).take k) := ((HR.out.2.1.chg HK.out.2.2.chg HR.out.2.2.1).chg (Chg.refl wr (fun _ => False)).drew (fun _ _ h => h)).sub (by omega)
      have e : pos + k - pos = ls.length - pos := by omega
      have HG := Lib.hid (And.intro hdec (And.intro hPP e))
      clear hdec hPP
      by_cases hcp : c = pos
      rotate_left
      all_goals
        unfold sliced at hLS
        rw [e] at hLS
        clear e
      · rw [if_neg hcp] at hLS
        have HL := Lib.hid hLS
        clear hLS
        go_wp2
        refine wp_region_held_drew (S := (fun w' => w'.cell? ⟨rb, 1, none⟩ = some (.int .i64 (ls.length : Int)) ∧ w'.cell? ⟨rb, 0, none⟩ = some (.slice A ls.length c))) (by kernel_rfl) ?_ (fun hHeld0 => ?_)
        · (try dsimp only)
          exact ⟨p1, p0⟩
        refine wpAnyH_take (i := 0) (oi := ⟨some 11, _, _, _, _, _⟩) (v := ?_) rfl (by kernel_rfl) (by kernel_rfl) (by kernel_rfl) (fun _ _ _ h => h) (Or.inl ⟨by kernel_rfl, ?_⟩) (by assumption) ?_
        rotate_left
        · (intro w hSw; (try dsimp only at hSw); go_simp; (first | done | with_reducible rfl))
        (try simp only [Act.put, List.setIfInBounds_toArray, List.set_cons_zero, List.set_cons_succ])
        refine wpAnyH_take (i := 1) (oi := ⟨some 12, _, _, _, _, _⟩) (v := ?_) rfl (by kernel_rfl) (by kernel_rfl) (by kernel_rfl) (fun _ _ _ h => h) (Or.inl ⟨by kernel_rfl, ?_⟩) (by assumption) ?_
        rotate_left
        · (intro w hSw; (try dsimp only at hSw); go_simp; (first | done | with_reducible rfl))
        (try simp only [Act.put, List.setIfInBounds_toArray, List.set_cons_zero, List.set_cons_succ])
        refine wpAnyH_take (i := 2) (oi := ⟨some 13, _, _, _, _, _⟩) (v := ?_) rfl (by kernel_rfl) (by kernel_rfl) (by kernel_rfl) (fun _ _ _ h => h) (Or.inl ⟨by kernel_rfl, ?_⟩) (by assumption) ?_
        rotate_left
        · (intro w hSw; (try dsimp only at hSw); go_simp; (first | done | with_reducible rfl))
        (try simp only [Act.put, List.setIfInBounds_toArray, List.set_cons_zero, List.set_cons_succ])
        refine wpAnyH_take (i := 3) (oi := ⟨some 14, _, _, _, _, _⟩) (v := ?_) rfl (by kernel_rfl) (by kernel_rfl) (by kernel_rfl) (fun _ _ _ h => h) (Or.inl ⟨by kernel_rfl, ?_⟩) (by assumption) ?_
        rotate_left
        · (intro w hSw; (try dsimp only at hSw); go_simp; (first | done | with_reducible rfl))
        (try simp only [Act.put, List.setIfInBounds_toArray, List.set_cons_zero, List.set_cons_succ])
        refine wpAnyH_take (i := 4) (oi := ⟨some 15, _, _, _, _, _⟩) (v := ?_) rfl (by kernel_rfl) (by kernel_rfl) (by kernel_rfl) (fun _ _ _ h => h) (Or.inl ⟨by kernel_rfl, ?_⟩) (by assumption) ?_
        rotate_left
        · (intro w hSw; (try dsimp only at hSw); go_simp; (first | done | with_reducible rfl))
        (try simp only [Act.put, List.setIfInBounds_toArray, List.set_cons_zero, List.set_cons_succ])
        refine wpAnyH_take (i := 5) (oi := ⟨some 16, _, _, _, _, _⟩) (v := ?_) rfl (by kernel_rfl) (by kernel_rfl) (by kernel_rfl) (fun _ _ _ h => h) (Or.inl ⟨by kernel_rfl, ?_⟩) (by assumption) ?_
        rotate_left
        · (intro w hSw; (try dsimp only at hSw); go_simp; (first | done | with_reducible rfl))
        (try simp only [Act.put, List.setIfInBounds_toArray, List.set_cons_zero, List.set_cons_succ])
        refine wpAnyH_take (i := 6) (oi := ⟨some 17, _, _, _, _, _⟩) (v := ?_) rfl (by kernel_rfl) (by kernel_rfl) (by kernel_rfl) (fun _ _ _ h => h) (Or.inl ⟨by kernel_rfl, ?_⟩) (by assumption) ?_
        rotate_left
        · (intro w hSw; (try dsimp only at hSw); go_simp; (first | done | with_reducible rfl))
        (try simp only [Act.put, List.setIfInBounds_toArray, List.set_cons_zero, List.set_cons_succ])
        refine wpAnyH_take (i := 7) (oi := ⟨some 18, _, _, _, _, _⟩) (v := ?_) rfl (by kernel_rfl) (by kernel_rfl) (by kernel_rfl) (fun _ _ _ h => h) (Or.inl ⟨by kernel_rfl, ?_⟩) (by assumption) ?_
        rotate_left
        · (intro w hSw; (try dsimp only at hSw); go_simp; (first | done | with_reducible rfl))
        (try simp only [Act.put, List.setIfInBounds_toArray, List.set_cons_zero, List.set_cons_succ])
        refine wpAnyH_take (i := 8) (oi := ⟨some 19, _, _, _, _, _⟩) (v := ?_) rfl (by kernel_rfl) (by kernel_rfl) (by kernel_rfl) (fun _ _ _ h => h) (Or.inl ⟨by kernel_rfl, ?_⟩) (by assumption) ?_
        rotate_left
        · (intro w hSw; (try dsimp only at hSw); go_simp; (first | done | with_reducible rfl))
        (try simp only [Act.put, List.setIfInBounds_toArray, List.set_cons_zero, List.set_cons_succ])
        refine wpAnyH_take (i := 9) (oi := ⟨some 20, _, _, _, _, _⟩) (v := ?_) rfl (by kernel_rfl) (by kernel_rfl) (by kernel_rfl) (fun _ _ _ h => h) (Or.inl ⟨by kernel_rfl, ?_⟩) (by assumption) ?_
        rotate_left
        · (intro w hSw; (try dsimp only at hSw); go_simp; (first | done | with_reducible rfl))
        (try simp only [Act.put, List.setIfInBounds_toArray, List.set_cons_zero, List.set_cons_succ])
        refine wpAnyH_done (by kernel_rfl) ?_ _
        go_wp2
        go_ret2
        rw [HG.out.1, HU0.out, HG.out.2.1]
        refine ⟨_, rfl, HL.out, ?_, ?_⟩
        · exact HK.out.2.1.chg (Chg.refl wr (fun _ => False)).drew (fun _ _ h => h) (fun _ _ h => h)
        · exact HK.out.2.2.trans ⟨(Chg.refl wr O).drew, fun _ h => .inl h, fun _ h => .inl h, fun _ h => h⟩
      · rw [if_pos hcp] at hLS
        have HL := Lib.hid hLS
        clear hLS
        go_wp2
        refine wp_region_held_drew (S := (fun w' => w'.cell? ⟨rb, 1, none⟩ = some (.int .i64 (ls.length : Int)) ∧ w'.cell? ⟨rb, 0, none⟩ = some (.slice A ls.length c))) (by kernel_rfl) ?_ (fun hHeld0 => ?_)
        · (try dsimp only)
          exact ⟨p1, p0⟩
        refine wpAnyH_take (i := 0) (oi := ⟨some 11, _, _, _, _, _⟩) (v := ?_) rfl (by kernel_rfl) (by kernel_rfl) (by kernel_rfl) (fun _ _ _ h => h) (Or.inl ⟨by kernel_rfl, ?_⟩) (by assumption) ?_
        rotate_left
        · (intro w hSw; (try dsimp only at hSw); go_simp; (first | done | with_reducible rfl))
        (try simp only [Act.put, List.setIfInBounds_toArray, List.set_cons_zero, List.set_cons_succ])
        refine wpAnyH_take (i := 1) (oi := ⟨some 12, _, _, _, _, _⟩) (v := ?_) rfl (by kernel_rfl) (by kernel_rfl) (by kernel_rfl) (fun _ _ _ h => h) (Or.inl ⟨by kernel_rfl, ?_⟩) (by assumption) ?_
        rotate_left
        · (intro w hSw; (try dsimp only at hSw); go_simp; (first | done | with_reducible rfl))
        (try simp only [Act.put, List.setIfInBounds_toArray, List.set_cons_zero, List.set_cons_succ])
        refine wpAnyH_take (i := 2) (oi := ⟨some 13, _, _, _, _, _⟩) (v := ?_) rfl (by kernel_rfl) (by kernel_rfl) (by kernel_rfl) (fun _ _ _ h => h) (Or.inl ⟨by kernel_rfl, ?_⟩) (by assumption) ?_
        rotate_left
        · (intro w hSw; (try dsimp only at hSw); go_simp; (first | done | with_reducible rfl))
        (try simp only [Act.put, List.setIfInBounds_toArray, List.set_cons_zero, List.set_cons_succ])
        refine wpAnyH_take (i := 3) (oi := ⟨some 14, _, _, _, _, _⟩) (v := ?_) rfl (by kernel_rfl) (by kernel_rfl) (by kernel_rfl) (fun _ _ _ h => h) (Or.inl ⟨by kernel_rfl, ?_⟩) (by assumption) ?_
        rotate_left
        · (intro w hSw; (try dsimp only at hSw); go_simp; (first | done | with_reducible rfl))
        (try simp only [Act.put, List.setIfInBounds_toArray, List.set_cons_zero, List.set_cons_succ])
        refine wpAnyH_take (i := 4) (oi := ⟨some 15, _, _, _, _, _⟩) (v := ?_) rfl (by kernel_rfl) (by kernel_rfl) (by kernel_rfl) (fun _ _ _ h => h) (Or.inl ⟨by kernel_rfl, ?_⟩) (by assumption) ?_
        rotate_left
        · (intro w hSw; (try dsimp only at hSw); go_simp; (first | done | with_reducible rfl))
        (try simp only [Act.put, List.setIfInBounds_toArray, List.set_cons_zero, List.set_cons_succ])
        refine wpAnyH_take (i := 5) (oi := ⟨some 16, _, _, _, _, _⟩) (v := ?_) rfl (by kernel_rfl) (by kernel_rfl) (by kernel_rfl) (fun _ _ _ h => h) (Or.inl ⟨by kernel_rfl, ?_⟩) (by assumption) ?_
        rotate_left
        · (intro w hSw; (try dsimp only at hSw); go_simp; (first | done | with_reducible rfl))
        (try simp only [Act.put, List.setIfInBounds_toArray, List.set_cons_zero, List.set_cons_succ])
        refine wpAnyH_take (i := 6) (oi := ⟨some 17, _, _, _, _, _⟩) (v := ?_) rfl (by kernel_rfl) (by kernel_rfl) (by kernel_rfl) (fun _ _ _ h => h) (Or.inl ⟨by kernel_rfl, ?_⟩) (by assumption) ?_
        rotate_left
        · (intro w hSw; (try dsimp only at hSw); go_simp; (first | done | with_reducible rfl))
        (try simp only [Act.put, List.setIfInBounds_toArray, List.set_cons_zero, List.set_cons_succ])
        refine wpAnyH_take (i := 7) (oi := ⟨some 18, _, _, _, _, _⟩) (v := ?_) rfl (by kernel_rfl) (by kernel_rfl) (by kernel_rfl) (fun _ _ _ h => h) (Or.inl ⟨by kernel_rfl, ?_⟩) (by assumption) ?_
        rotate_left
        · (intro w hSw; (try dsimp only at hSw); go_simp; (first | done | with_reducible rfl))
        (try simp only [Act.put, List.setIfInBounds_toArray, List.set_cons_zero, List.set_cons_succ])
        refine wpAnyH_take (i := 8) (oi := ⟨some 19, _, _, _, _, _⟩) (v := ?_) rfl (by kernel_rfl) (by kernel_rfl) (by kernel_rfl) (fun _ _ _ h => h) (Or.inl ⟨by kernel_rfl, ?_⟩) (by assumption) ?_
        rotate_left
        · (intro w hSw; (try dsimp only at hSw); go_simp; (first | done | with_reducible rfl))
        (try simp only [Act.put, List.setIfInBounds_toArray, List.set_cons_zero, List.set_cons_succ])
        refine wpAnyH_take (i := 9) (oi := ⟨some 20, _, _, _, _, _⟩) (v := ?_) rfl (by kernel_rfl) (by kernel_rfl) (by kernel_rfl) (fun _ _ _ h => h) (Or.inl ⟨by kernel_rfl, ?_⟩) (by assumption) ?_
        rotate_left
        · (intro w hSw; (try dsimp only at hSw); go_simp; (first | done | with_reducible rfl))
        (try simp only [Act.put, List.setIfInBounds_toArray, List.set_cons_zero, List.set_cons_succ])
        refine wpAnyH_done (by kernel_rfl) ?_ _
        subst hcp
        go_wp2
        go_ret2
        rw [HG.out.1, HU0.out, HG.out.2.1]
        refine ⟨_, rfl, ?_, ?_, ?_⟩
        · have h0 : ls.length - c = 0 := by omega
          have hL2 := HL.out
          rw [h0, Nat.sub_self] at hL2
          exact hL2
        · exact HK.out.2.1.chg (Chg.refl wr (fun _ => False)).drew (fun _ _ h => h) (fun _ _ h => h)
        · exact HK.out.2.2.trans ⟨(Chg.refl wr O).drew, fun _ h => .inl h, fun _ h => .inl h, fun _ h => h⟩
end Go.Proofs.YtcjmfjccjhdgjaaGreatDoor
namespace Go.Proofs.YtcjmfjccjhdgjaaGreatDoor
open Go.RowKit Go.Bd
theorem enter_code (args : Array Value) (w : World) : Sem.run Tryz.prog (callFunc 61 args) w = .ok (.enter 61 args) w := by kernel_rfl
theorem enter_table (args : Array Value) (w : World) : Sem.run Tryz.prog (callFunc 64 args) w = .ok (.enter 64 args) w := by kernel_rfl
theorem enter_para (args : Array Value) (w : World) : Sem.run Tryz.prog (callFunc 67 args) w = .ok (.enter 67 args) w := by kernel_rfl
theorem code1_any (t : Bs) (w : World) (ht : t.length ≤ 100000) : Calls Tryz.prog 61 #[strV t] w fun e w' => e = .returned (.bool (t == fenceL)) ∧ Below w.heap.size w w' := by
  unfold strV
  have he : (t == fenceL) = decide ((⟨t.toArray⟩ : ByteArray) = ⟨#[45, 45, 45, 45]⟩) := by
    rw [Bool.eq_iff_iff, beq_iff_eq, decide_eq_true_iff]
    exact ⟨fun h => by rw [h]; rfl, fun h => by simpa [fenceL] using congrArg (fun b : ByteArray => b.data.toList) h⟩
  rw [he]
  go_enter Tryz.func61, Tryz.ntmps61
  go_wp2
  go_ret
  exact ⟨by simp; rw [Bool.eq_iff_iff, beq_iff_eq, decide_eq_true_iff], Below.refl _ _⟩
theorem table1_any (t : Bs) (w : World) (ht : t.length ≤ 100000) : Calls Tryz.prog 64 #[strV t] w fun e w' => e = .returned (.bool (t == barsL)) ∧ Below w.heap.size w w' := by
  unfold strV
  have he : (t == barsL) = decide ((⟨t.toArray⟩ : ByteArray) = ⟨#[124, 61, 61, 61]⟩) := by
    rw [Bool.eq_iff_iff, beq_iff_eq, decide_eq_true_iff]
    exact ⟨fun h => by rw [h]; rfl, fun h => by simpa [barsL] using congrArg (fun b : ByteArray => b.data.toList) h⟩
  rw [he]
  go_enter Tryz.func64, Tryz.ntmps64
  go_wp2
  go_ret
  exact ⟨by simp; rw [Bool.eq_iff_iff, beq_iff_eq, decide_eq_true_iff], Below.refl _ _⟩
theorem para1_any (t : Bs) (w : World) (ht : t.length ≤ 100000) : Calls Tryz.prog 67 #[strV t] w fun e w' => e = .returned (.bool (!plainL t)) ∧ Below w.heap.size w w' := by
  have hp := fun w' => plain_any ⟨t.toArray⟩ w' (by rw [size_mk]; exact ht)
  rw [strV_data] at hp
  unfold strV
  go_enter Tryz.func67, Tryz.ntmps67
  go_wp2_with (go_at_call 68; refine (hp _).mono ?_; rintro e w1 ⟨rfl, hb1⟩)
  go_ret
  exact ⟨by simp, hb1⟩
end Go.Proofs.YtcjmfjccjhdgjaaGreatDoor
namespace Go.Bd
open Go.RowKit
theorem rows_nil (w : World) (F : Nat → Prop) : RowsF w F (.slice none 0 0) [] := ⟨none, 0, [], rfl, Nat.le_refl _, rfl, fun h => absurd rfl h, fun j x kv h => by simp at h⟩
def paraT (ls : List Ln) (pos : Nat) (s : ByteArray) : List Bs := s.data.toList :: ((ls.drop pos).take (untilN (fun t => !plainL t) (ls.drop pos))).map (fun x => trim x.text.data.toList)
def paraB (ls : List Ln) (pos : Nat) (s : ByteArray) : Bs := Lib.join (paraT ls pos s) [32]
end Go.Bd
namespace Go.Proofs.YtcjmfjccjhdgjaaGreatDoor
open Go.RowKit Go.Bd
theorem strs_info : (Tryz.prog.info? 9).map (fun i => (i.zero, i.size, i.bytes)) = some (some (.string ⟨#[]⟩), 1, 16) := by kernel_rfl
set_option maxRecDepth 100000 in
set_option maxHeartbeats 4000000 in
theorem para_any {w : World} {O F L : Nat → Prop} {rb : Nat} {lv : Value} {pos : Nat} {bv : Value} {bs : List Bl} {dv : Value} {ds : List Dg} (h : Rdr w O F rb lv pos bv bs dv ds) {ls : List Ln} (hL : LinesAt w L lv ls) (hLO : ∀ k, L k → ¬ O k) (hLl : ∀ k, L k → k < w.heap.size)
    (hsz : ∀ x ∈ ls, x.text.size ≤ 100000) (hp : pos ≤ ls.length) (hn : ls.length ≤ 1000000) (f t : ByteArray) (no : Int) (s : ByteArray) {m : Int} (hm : Glob m w) (h3 : ∀ k, O k → 3 ≤ k)
    (hl : bs.length ≤ 1000000) (hj : (paraB ls pos s).length ≤ 100000) (hd : ds.length + (faultsOf (paraB ls pos s)).length ≤ 1000000) :
    Calls Tryz.prog 42 #[.pointer (some ⟨rb, 0, none⟩), .agg #[.string f, .int .i64 no, .string t], .string s] w fun e w' => e = .returned (.tuple #[]) ∧ ∃ O' F' bv' dv', Rdr w' O' F' rb lv (pos + untilN (fun t => !plainL t) (ls.drop pos)) bv' (bs ++ [⟨2, 0, false, ⟨#[]⟩, ⟨#[]⟩, spansOf (paraB ls pos s), [], f, no⟩]) dv' (ds ++ (faultsOf (paraB ls pos s)).map (dgOf f no ⟨(paraB ls pos s).toArray⟩)) ∧ Turn w w' O F O' F' := by
  have hB1 : Below w.heap.size w (w.alloc (.cells #[.string f, .int .i64 no, .string t] 62)) := (Below.refl _ w).alloc (Nat.le_refl _) _
  have h1 := h.below hB1
  have hX := Holds.new w 62 #[.string f, .int .i64 no, .string t]
  have hm1 := hm.chg (Chg.below hB1 (fun _ => False)) (fun _ h => h.elim)
  have hL1 := hL.chg (Chg.below hB1 (fun _ => False)) (fun _ _ h => h)
  have hT1 : Turn w (w.alloc (.cells #[.string f, .int .i64 no, .string t] 62)) O F O F := ⟨Chg.below hB1 O, fun _ h => .inl h, fun _ h => .inl h, fun _ h => h⟩
  have hLl1 : ∀ k, L k → k < (w.alloc (.cells #[.string f, .int .i64 no, .string t] 62)).heap.size := fun k hk => by have := hLl k hk; simp; omega
  obtain ⟨n, hn1⟩ : ∃ n, w.heap.size = n := ⟨_, rfl⟩
  have hn3 : 3 ≤ n := hn1 ▸ hm.three
  rw [hn1] at hX
  obtain ⟨W1, hW1⟩ : ∃ W1, w.alloc (.cells #[.string f, .int .i64 no, .string t] 62) = W1 := ⟨_, rfl⟩
  rw [hW1] at h1 hX hm1 hL1 hLl1 hT1
  have CU := until_any h1 hL1 hLO hLl1 hsz hp hn 67 enter_para (fun t => !plainL t) para1_any
  unfold paraB paraT at hj hd ⊢
  obtain ⟨kk, hkk⟩ : ∃ kk, untilN (fun t => !plainL t) (ls.drop pos) = kk := ⟨_, rfl⟩
  have hkl : pos + kk ≤ ls.length := by have := untilN_le (fun t => !plainL t) (ls.drop pos); rw [List.length_drop] at this; omega
  rw [hkk] at hj hd CU ⊢
  obtain ⟨mid, hmid⟩ : ∃ mid, (ls.drop pos).take kk = mid := ⟨_, rfl⟩
  have hml : mid.length = kk := by rw [← hmid, List.length_take, List.length_drop]; omega
  have hms : ∀ x ∈ mid, x.text.size ≤ 100000 := fun x hx => hsz x (List.mem_of_mem_drop (List.mem_of_mem_take (hmid ▸ hx)))
  rw [hmid] at hj hd CU ⊢
  obtain ⟨xs, hxs⟩ : ∃ xs : List ByteArray, s :: mid.map (fun x => (⟨(trim x.text.data.toList).toArray⟩ : ByteArray)) = xs := ⟨_, rfl⟩
  have hxl : xs.length = kk + 1 := by rw [← hxs]; simp [hml]
  have hrow : (Value.string s :: mid.map (fun x => strV (trim x.text.data.toList))) = xs.map Value.string := by rw [← hxs]; simp [strV]
  have hjn : Lib.join (xs.map (·.data.toList)) [32] = Lib.join (s.data.toList :: mid.map (fun x => trim x.text.data.toList)) [32] := by
    rw [← hxs, List.map_cons, List.map_map]; congr 2
  rw [← hjn] at hj hd ⊢
  obtain ⟨J, hJ⟩ : ∃ J, Lib.join (xs.map (·.data.toList)) [32] = J := ⟨_, rfl⟩
  rw [hJ] at hj hd ⊢
  have HJ := Lib.hid (And.intro hrow (And.intro hxl hJ))
  clear hxs hxl hrow hjn hJ
  have hnO : ¬ O n := fun e => by have := h.ltO n e; omega
  have hnF : ¬ F n := fun e => by have := h.ltF n e; omega
  have HX := Lib.hid (And.intro hX (And.intro hm1 (And.intro hT1 hn1)))
  have HL := Lib.hid (And.intro hLl1 (And.intro hLO hms))
  have HH := Lib.hid (And.intro hkk (And.intro hmid h3))
  clear h h1 hX hm hm1 hL hL1 hLl hLl1 hLO hB1 hT1 hkk hmid hsz hms h3
  go_enter Tryz.func42, Tryz.ntmps42
  go_wp2_with fail
  refine CU.mono ?_
  clear CU
  rintro e W2 ⟨v, rfl, hL2, hr2, ht2⟩
  (try rw [hn1])
  clear hW1 hn1
  obtain ⟨A, c, rfl, hcl⟩ : ∃ A c, v = .slice A mid.length c ∧ mid.length ≤ c := by
    obtain ⟨A, c, h1, h2, _⟩ := hL2
    exact ⟨A, c, h1, h2⟩
  have hown : (W2.alloc (.cells #[.string s] 9)).ownsRow W2.heap.size 9 1 (.slice (some ⟨W2.heap.size, 0, none⟩) 1 1) 1 [.string s] := ⟨by simp, .inr ⟨_, 1, _, rfl, Nat.le_refl _, heap_alloc_new W2 _, Nat.le_refl _, by unfold maxLen; omega, rfl, rfl⟩⟩
  have hlt2 := ht2.chg.size
  have HQ := Lib.hid (And.intro hL2 (And.intro hr2 (And.intro ht2 (And.intro hown hlt2))))
  clear hL2 hr2 ht2 hown hlt2
  go_wp2
  obtain ⟨B, hB⟩ : ∃ B, W2.heap.size = B := ⟨_, rfl⟩
  rw [hB]
  go_loopg [8, 10, 21] kk (fun q vt vx vi wr => ∃ k : Nat, k + q = kk ∧ vi = .int .i64 (k : Int) ∧ Hid (wr.ownsRow B 9 1 vt (k + 1) (Value.string s :: (mid.take k).map (fun x => strV (trim x.text.data.toList))) ∧ Below B W2 wr))
  case atStart => exact ⟨0, by omega, rfl, by rw [← hB]; simpa using HQ.out.2.2.2.1, by rw [← hB]; exact (Below.refl _ W2).alloc (Nat.le_refl _) _⟩
  case round =>
    obtain ⟨k, hk, rfl, HK⟩ := hrel
    obtain ⟨TA, tc, rfl, htc⟩ := own_slice HK.out.1
    by_cases hlt : k < kk
    · obtain ⟨x, hx⟩ : ∃ x, mid[k]? = some x := ⟨_, List.getElem?_eq_getElem (by omega)⟩
      obtain ⟨b, off, c1, hA, _, hb, l0, l1, l2⟩ := HQ.out.1.at hx
      obtain ⟨rfl, rfl⟩ : A = some ⟨b, off, none⟩ ∧ c = c1 := by cases hA; exact ⟨rfl, rfl⟩
      have hxs := HL.out.2.2 x (List.mem_of_getElem? hx)
      have hbB : b < B := by have := HL.out.1 b hb; have := HQ.out.2.2.2.2; omega
      replace l0 := (HK.out.2.cell (p := ⟨b, off + k * 3, none⟩) hbB).trans l0
      replace l1 := (HK.out.2.cell (p := ⟨b, off + k * 3 + 1, none⟩) hbB).trans l1
      replace l2 := (HK.out.2.cell (p := ⟨b, off + k * 3 + 2, none⟩) hbB).trans l2
      have cc := fun W => counted_any x.file x.text x.no W hxs
      clear hA
      go_wp2_with fail
      refine (cc _).mono ?_
      clear cc
      rintro e w1 ⟨rfl, hb1⟩
      unfold strV
      have hba : Below wr.heap.size wr w1 := ((Below.refl _ wr).alloc (Nat.le_refl _) _).trans (hb1.mono (by simp))
      have hown1 := own_below HK.out.1 hba
      have hBw : B ≤ wr.heap.size := by have := HK.out.2.size; omega
      have hw1 := hba.size
      have hbl1 : Below B W2 w1 := HK.out.2.trans (hba.mono hBw)
      have HW := Lib.hid (And.intro hown1 (And.intro hbl1 (And.intro hba hx)))
      clear hown1 hbl1 hba hb1 hx l0 l1 l2
      go_wp2_with (at_builtin; refine wpList_app1 _ rfl _ _ 22 rfl B 9 (.string ⟨#[]⟩) 16 Tryz.underlying22 strs_info rfl _ (k + 1) _ rfl (HW.out.1.alloc _) _ 1 (.string ⟨(trim x.text.data.toList).toArray⟩) rfl (by simp) rfl (by unfold maxLen; omega) (by omega) (by simp; omega) ?_)
      intro v1 w2 hown2 hgr2
      have hbl2 : Below B W2 w2 := (HW.out.2.1.alloc (by omega) _).grown hgr2 (by simp; omega) (fun q hq => (HW.out.1.lt q hq).1)
      have hK2 : Hid (w2.ownsRow B 9 1 v1 (k + 1 + 1) (Value.string s :: (mid.take (k + 1)).map (fun x => strV (trim x.text.data.toList))) ∧ Below B W2 w2) := Lib.hid ⟨by rw [List.take_add_one, HW.out.2.2.2]; simpa [strV] using hown2, hbl2⟩
      clear hown2 hgr2 hbl2
      go_wp2
      go_roundg (gk - 1)
      case measure => omega
      case rel => exact ⟨k + 1, by omega, by go_num, hK2.out⟩
    · obtain rfl : k = kk := by omega
      have hown := HK.out.1
      rw [List.take_of_length_le (by omega)] at hown
      have hrow := HJ.out.1
      have hJ := HJ.out.2.2
      have hxl := HJ.out.2.1
      rw [hrow] at hown
      obtain ⟨g, tc2, hgA, _, hgl, _, _, _⟩ := own_some hown (by omega)
      obtain ⟨rfl, rfl⟩ : TA = some ⟨g, 0, none⟩ ∧ tc = tc2 := by cases hgA; exact ⟨rfl, rfl⟩
      have hC2 : Chg W2 wr (fun _ => False) := Chg.below (hB ▸ HK.out.2) _
      have hr := HQ.out.2.1.chg hC2 (fun _ _ h => h) (fun _ _ h => h)
      have htw : Turn w wr O F O F := (HX.out.2.2.1.trans HQ.out.2.2.1).trans ⟨hC2.mono (fun _ _ h => h.elim), fun _ h => .inl h, fun _ h => .inl h, fun _ h => h⟩
      have hXw := hC2.holds (fun h => h) (HQ.out.2.2.1.chg.holds hnO HX.out.1)
      have hmw := (HX.out.2.1.chg HQ.out.2.2.1.chg HH.out.2.2).chg hC2 (fun _ h => h.elim)
      have hBb := (Below.refl wr.heap.size wr).alloc (Nat.le_refl _) (.cells #[.int .u8 2, .int .i64 0, .bool false, .string ⟨#[]⟩, .string ⟨#[]⟩, .slice none 0 0, .slice none 0 0, .string ⟨#[]⟩, .int .i64 0] 35)
      have hCb := Chg.below hBb (fun _ => False)
      have hrb := hr.below hBb
      have hXb := hXw.alloc (.cells #[.int .u8 2, .int .i64 0, .bool false, .string ⟨#[]⟩, .string ⟨#[]⟩, .slice none 0 0, .slice none 0 0, .string ⟨#[]⟩, .int .i64 0] 35)
      have hNb := Holds.new wr 35 #[.int .u8 2, .int .i64 0, .bool false, .string ⟨#[]⟩, .string ⟨#[]⟩, .slice none 0 0, .slice none 0 0, .string ⟨#[]⟩, .int .i64 0]
      have hmb := hmw.chg hCb (fun _ h => h.elim)
      have hcb : ∀ (j : Nat) x, xs[j]? = some x → (wr.alloc (.cells #[.int .u8 2, .int .i64 0, .bool false, .string ⟨#[]⟩, .string ⟨#[]⟩, .slice none 0 0, .slice none 0 0, .string ⟨#[]⟩, .int .i64 0] 35)).cell? ⟨g, 0 + j, none⟩ = some (.string x) := fun j x hx => by
        rw [Nat.zero_add]
        exact hCb.cell (p := ⟨g, j, none⟩) (fun h => h) (own_cell hown (by rw [List.getElem?_map, hx]; rfl))
      have htb : Turn w (wr.alloc (.cells #[.int .u8 2, .int .i64 0, .bool false, .string ⟨#[]⟩, .string ⟨#[]⟩, .slice none 0 0, .slice none 0 0, .string ⟨#[]⟩, .int .i64 0] 35)) O F O F := htw.trans ⟨hCb.mono (fun _ _ h => h.elim), fun _ h => .inl h, fun _ h => .inl h, fun _ h => h⟩
      have hgb : g < (wr.alloc (.cells #[.int .u8 2, .int .i64 0, .bool false, .string ⟨#[]⟩, .string ⟨#[]⟩, .slice none 0 0, .slice none 0 0, .string ⟨#[]⟩, .int .i64 0] 35)).heap.size := by simp; omega
      have hnn : n < wr.heap.size := hXw.lt
      obtain ⟨nb, hnb⟩ : ∃ nb, wr.heap.size = nb := ⟨_, rfl⟩
      rw [hnb] at hNb hnn
      have hnbO : ¬ O nb := fun e => by have := hr.ltO nb e; omega
      have hnbF : ¬ F nb := fun e => by have := hr.ltF nb e; omega
      have hwnb : w.heap.size ≤ nb := by have := htw.chg.size; omega
      obtain ⟨Wb, hWb⟩ : ∃ Wb, wr.alloc (.cells #[.int .u8 2, .int .i64 0, .bool false, .string ⟨#[]⟩, .string ⟨#[]⟩, .slice none 0 0, .slice none 0 0, .string ⟨#[]⟩, .int .i64 0] 35) = Wb := ⟨_, rfl⟩
      rw [hWb] at hrb hXb hNb hmb hcb htb hgb
      obtain ⟨d0, d1, d2⟩ := cells3 hXb
      have cj := fun W (hW : Chg Wb W (fun _ => False)) => Tryz.strings_Join g 0 tc xs ⟨#[32]⟩ W (fun j x hx => hW.cell (fun h => h) (hcb j x hx)) (Nat.lt_of_lt_of_le hgb hW.size) (by omega) (by omega) (by have e : (⟨#[32]⟩ : ByteArray).data.toList = [32] := rfl; rw [e, hJ]; omega)
      have e32 : (⟨#[32]⟩ : ByteArray).data.toList = [32] := rfl
      rw [hxl, e32, hJ] at cj
      have HB := Lib.hid (And.intro hrb (And.intro htb (And.intro hXb (And.intro hNb hmb))))
      have CJ := Lib.hid cj
      clear hJ hxl hown hrow hC2 hr htw hXw hmw hBb hCb hrb hXb hNb hmb hcb htb hgb hgA hgl cj e32
      have HWB := Lib.hid hWb
      have HNB := Lib.hid hnb
      clear hWb hnb
      go_wp2_with fail
      (try rw [HWB.out])
      (try rw [HNB.out])
      clear HWB HNB
      have hnne : nb ≠ n := by omega
      refine wp_region_held_drew (S := (fun w' => w'.cell? ⟨n, 0, none⟩ = some (.string f) ∧ w'.cell? ⟨n, 1, none⟩ = some (.int .i64 no) ∧ w'.cell? ⟨n, 2, none⟩ = some (.string t))) (by kernel_rfl) ?_ (fun hHeld0 => ?_)
      · (try dsimp only)
        first | exact ⟨d0, d1, d2⟩ | exact cells3 hX3 | exact cells3 hX4 | exact cells3 hX5
      refine wpAnyH_take (i := 0) (oi := ⟨some 32, _, _, _, _, _⟩) (v := ?_) rfl (by kernel_rfl) (by kernel_rfl) (by kernel_rfl) (fun _ _ _ h => h) (Or.inl ⟨by kernel_rfl, ?_⟩) (by assumption) ?_
      rotate_left
      · (intro w hSw; (try dsimp only at hSw); go_simp; (first | done | with_reducible rfl))
      (try simp only [Act.put, List.setIfInBounds_toArray, List.set_cons_zero, List.set_cons_succ])
      refine wpAnyH_take (i := 1) (oi := ⟨some 33, _, _, _, _, _⟩) (v := ?_) rfl (by kernel_rfl) (by kernel_rfl) (by kernel_rfl) (fun _ _ _ h => h) (Or.inl ⟨by kernel_rfl, ?_⟩) (by assumption) ?_
      rotate_left
      · (intro w hSw; (try dsimp only at hSw); go_simp; (first | done | with_reducible rfl))
      (try simp only [Act.put, List.setIfInBounds_toArray, List.set_cons_zero, List.set_cons_succ])
      refine wpAnyH_take (i := 2) (oi := ⟨some 34, _, _, _, _, _⟩) (v := ?_) rfl (by kernel_rfl) (by kernel_rfl) (by kernel_rfl) (fun _ _ _ h => h) (Or.inl ⟨by kernel_rfl, ?_⟩) (by assumption) ?_
      rotate_left
      · (intro w hSw; (try dsimp only at hSw); go_simp; (first | done | with_reducible rfl))
      (try simp only [Act.put, List.setIfInBounds_toArray, List.set_cons_zero, List.set_cons_succ])
      refine wpAnyH_ready (rs := [3]) (by kernel_rfl) (by simp) ?_
      refine AllReadyH.cons (o := ⟨some 35, _, _, _, _, _⟩) rfl (fun K hK => ?_) AllReadyH.nil
      go_simp
      refine (CJ.out _ (by first | exact Chg.refl _ _ | exact (Chg.refl _ _).drew | exact (Chg.refl _ _).drew.drew)).mono ?_
      rintro e w3 ⟨rfl, hb3⟩
      have hC3 : Chg Wb w3 (fun _ => False) := by
        first
        | exact (Chg.refl _ _).trans (Chg.below hb3 _) (fun k _ h => h)
        | exact ((Chg.refl _ _).drew).trans (Chg.below hb3 _) (fun k _ h => h)
        | exact ((Chg.refl _ _).drew.drew).trans (Chg.below hb3 _) (fun k _ h => h)
      have hX3 := hC3.holds (fun h => h) HB.out.2.2.1
      have hN3 := hC3.holds (fun h => h) HB.out.2.2.2.1
      have hr3 := HB.out.1.chg hC3 (fun _ _ h => h) (fun _ _ h => h)
      have hm3 := HB.out.2.2.2.2.chg hC3 (fun _ h => h.elim)
      have ht3 : Turn w w3 O F O F := HB.out.2.1.trans ⟨hC3.mono (fun _ _ h => h.elim), fun _ h => .inl h, fun _ h => .inl h, fun _ h => h⟩
      have H3 := Lib.hid (And.intro hr3 (And.intro hm3 (And.intro ht3 hN3)))
      clear hb3 hC3 hr3 hm3 ht3 hN3
      refine hK.out _ _ ?_ (fun hHeld1 => ?_)
      · (try dsimp only)
        first | exact ⟨d0, d1, d2⟩ | exact cells3 hX3 | exact cells3 hX4 | exact cells3 hX5
      clear hK K hHeld0
      (try simp only [Act.put, List.setIfInBounds_toArray, List.set_cons_zero, List.set_cons_succ])
      refine wpAnyH_ready (rs := [4]) (by kernel_rfl) (by simp) ?_
      refine AllReadyH.cons (o := ⟨some 36, _, _, _, _, _⟩) rfl (fun K hK => ?_) AllReadyH.nil
      go_simp
      have CS := bspans_any H3.out.1 f t no ⟨J.toArray⟩ (by rw [size_mk]; exact hj) H3.out.2.1 (by rw [strV_data]; exact hd)
      rw [strV_data] at CS
      refine CS.mono ?_
      clear CS
      rintro e w4 ⟨sv, O2, F2, dv2, rfl, hfo, hr4, ht4⟩
      obtain ⟨As, cs, rfl, _⟩ := hfo.form
      have hnb4 := H3.out.2.2.2.lt
      have hX4 := ht4.chg.holds hnO hX3
      have hN4 := ht4.chg.holds hnbO H3.out.2.2.2
      have hbO2 := ht4.offO hnb4 hnbO
      have hbF2 := ht4.offF hnb4 hnbF
      have c5 := hN4.cell 5
      have x5 := hN4.free 5
      have hX5 := hX4.far (p := ⟨nb, 5, none⟩) (Ne.symm hnne) (.slice As (spansOf J).length cs)
      have H4 := Lib.hid (And.intro hfo (And.intro hr4 (And.intro ht4 hN4)))
      clear hfo hr4 ht4 hN4 hnb4
      refine hK.out _ _ ?_ (fun hHeld2 => ?_)
      · (try dsimp only)
        first | exact ⟨d0, d1, d2⟩ | exact cells3 hX3 | exact cells3 hX4 | exact cells3 hX5
      clear hK K hHeld1
      (try simp only [Act.put, List.setIfInBounds_toArray, List.set_cons_zero, List.set_cons_succ])
      refine wpAnyH_take (i := 5) (oi := ⟨some 37, _, _, _, _, _⟩) (v := ?_) rfl (by kernel_rfl) (by kernel_rfl) (by kernel_rfl) (fun _ _ _ h => h) (Or.inl ⟨by kernel_rfl, ?_⟩) (by assumption) ?_
      rotate_left
      · (intro w hSw; (try dsimp only at hSw); go_simp; (first | done | with_reducible rfl))
      (try simp only [Act.put, List.setIfInBounds_toArray, List.set_cons_zero, List.set_cons_succ])
      refine wpAnyH_ready (rs := [6]) (by kernel_rfl) (by simp) ?_
      refine AllReadyH.cons rfl (fun K hK => ?_) AllReadyH.nil
      go_simp
      refine hK.out _ _ ?_ (fun hHeld3 => ?_)
      · (try dsimp only)
        first | exact ⟨d0, d1, d2⟩ | exact cells3 hX3 | exact cells3 hX4 | exact cells3 hX5
      clear hK K hHeld2
      (try simp only [Act.put, List.setIfInBounds_toArray, List.set_cons_zero, List.set_cons_succ])
      refine wpAnyH_done (by kernel_rfl) ?_ _
      have hC6 : Chg w4 (w4.setCell ⟨nb, 5, none⟩ (.slice As (spansOf J).length cs)) (fun k => k = nb) := Chg.set w4 ⟨nb, 5, none⟩ (.slice As (spansOf J).length cs)
      have hr6 := H4.out.2.1.chg hC6 (fun k hk e => hbO2 (e ▸ hk)) (fun k hk e => hbF2 (e ▸ hk))
      have hfo6 := H4.out.1.chg hC6 (fun _ h => h) (fun k hk e => hbF2 (e ▸ hk))
      have hN6 := H4.out.2.2.2.set 5 (.slice As (spansOf J).length cs)
      simp only [List.setIfInBounds_toArray, List.set_cons_succ, List.set_cons_zero] at hN6
      obtain ⟨b0, b1, b2, b3, b4, b5, b6, b7, b8⟩ := cells9 hN6
      obtain ⟨q0, q1, q2⟩ := cells3 hX5
      have CA := badd_any hr6 ⟨2, 0, false, ⟨#[]⟩, ⟨#[]⟩, spansOf J, [], f, no⟩ (.slice As (spansOf J).length cs) (.slice none 0 0) ⟨hfo6, rows_nil _ _⟩ f t ⟨#[]⟩ no 0 hl rfl rfl
      have e2 : ((2 : Nat) : Int) = 2 := rfl
      have e0 : ((0 : Nat) : Int) = 0 := rfl
      simp only [e2, e0] at CA
      have H6 := Lib.hid hC6
      clear e2 e0 hr6 hfo6 hN6 hX5 hX4 hX3 hC6 d0 d1 d2
      go_wp2_with fail
      refine CA.mono ?_
      clear CA
      rintro e W7 ⟨rfl, O3, bv3, hr7, ht7⟩
      go_wp2
      go_end0
      exact ⟨rfl, O3, F2, bv3, dv2, hr7, ((H3.out.2.2.1.trans H4.out.2.2.1).poke H6.out hwnb).trans ht7⟩
end Go.Proofs.YtcjmfjccjhdgjaaGreatDoor
namespace Go.Proofs.YtcjmfjccjhdgjaaGreatDoor
open Go.RowKit Go.Bd Go.Shelf
def bldRen : Go.Shelf.Ren := ⟨fun | 166 => 45 | 167 => 62 | 240 => 72 | 276 => 93 | n => n, fun | 0 => 0 | 3 => 3 | 4 => 4 | 5 => 5 | 9 => 9 | 20 => 20 | 37 => 43 | 70 => 71 | 72 => 73 | 75 => 93 | 164 => 155 | 80 => 75 | 127 => 96 | n => n, fun | n => n⟩
theorem bldExtra : Builder.Extra Tryz.prog bldRen where
  sizeBuilder := by kernel_rfl
  liesBuilder := by kernel_rfl
  t5 := Tryz.underlying5
  a5 := Tryz.isAgg5
  z5 := Tryz.sizeOf5
  v5 := Tryz.zeroValue5
  infoByte := by kernel_rfl
  cellsByte := by kernel_rfl
  sizeByte := by kernel_rfl
  neB5 := by decide
theorem bldLays166 : Go.Proofs.Lays.n166 Tryz.prog bldRen where
  mixed := by kernel_rfl
  f166 := Tryz.func45.trans (congrArg some (by kernel_rfl))
  f240 := Tryz.func72.trans (congrArg some (by kernel_rfl))
  f276 := Tryz.func93.trans (congrArg some (by kernel_rfl))
  t0 := Tryz.underlying0
  a0 := Tryz.isAgg0
  z0 := Tryz.sizeOf0
  v0 := Tryz.zeroValue0
  t3 := Tryz.underlying3
  a3 := Tryz.isAgg3
  z3 := Tryz.sizeOf3
  v3 := Tryz.zeroValue3
  t4 := Tryz.underlying4
  a4 := Tryz.isAgg4
  z4 := Tryz.sizeOf4
  v4 := Tryz.zeroValue4
  t9 := Tryz.underlying9
  a9 := Tryz.isAgg9
  z9 := Tryz.sizeOf9
  v9 := Tryz.zeroValue9
  t20 := Tryz.underlying20
  a20 := Tryz.isAgg20
  z20 := Tryz.sizeOf20
  v20 := Tryz.zeroValue20
  t37 := Tryz.underlying43
  a37 := Tryz.isAgg43
  z37 := Tryz.sizeOf43
  v37 := Tryz.zeroValue43
  t70 := Tryz.underlying71
  a70 := Tryz.isAgg71
  z70 := Tryz.sizeOf71
  v70 := Tryz.zeroValue71
  t72 := Tryz.underlying73
  a72 := Tryz.isAgg73
  z72 := Tryz.sizeOf73
  v72 := Tryz.zeroValue73
  t75 := Tryz.underlying93
  a75 := Tryz.isAgg93
  z75 := Tryz.sizeOf93
  v75 := Tryz.zeroValue93
  t164 := Tryz.underlying155
  a164 := Tryz.isAgg155
  z164 := Tryz.sizeOf155
  v164 := Tryz.zeroValue155
theorem bldLays167 : Go.Proofs.Lays.n167 Tryz.prog bldRen where
  mixed := by kernel_rfl
  f167 := Tryz.func62.trans (congrArg some (by kernel_rfl))
  f240 := Tryz.func72.trans (congrArg some (by kernel_rfl))
  f276 := Tryz.func93.trans (congrArg some (by kernel_rfl))
  t0 := Tryz.underlying0
  a0 := Tryz.isAgg0
  z0 := Tryz.sizeOf0
  v0 := Tryz.zeroValue0
  t4 := Tryz.underlying4
  a4 := Tryz.isAgg4
  z4 := Tryz.sizeOf4
  v4 := Tryz.zeroValue4
  t5 := Tryz.underlying5
  a5 := Tryz.isAgg5
  z5 := Tryz.sizeOf5
  v5 := Tryz.zeroValue5
  t9 := Tryz.underlying9
  a9 := Tryz.isAgg9
  z9 := Tryz.sizeOf9
  v9 := Tryz.zeroValue9
  t20 := Tryz.underlying20
  a20 := Tryz.isAgg20
  z20 := Tryz.sizeOf20
  v20 := Tryz.zeroValue20
  t37 := Tryz.underlying43
  a37 := Tryz.isAgg43
  z37 := Tryz.sizeOf43
  v37 := Tryz.zeroValue43
  t70 := Tryz.underlying71
  a70 := Tryz.isAgg71
  z70 := Tryz.sizeOf71
  v70 := Tryz.zeroValue71
  t72 := Tryz.underlying73
  a72 := Tryz.isAgg73
  z72 := Tryz.sizeOf73
  v72 := Tryz.zeroValue73
  t75 := Tryz.underlying93
  a75 := Tryz.isAgg93
  z75 := Tryz.sizeOf93
  v75 := Tryz.zeroValue93
  t164 := Tryz.underlying155
  a164 := Tryz.isAgg155
  z164 := Tryz.sizeOf155
  v164 := Tryz.zeroValue155
abbrev Bld (B b : Nat) (l : Bs) (w : World) : Prop := Lib.IsBuilder 73 5 B b (Lib.byteCells l) w
theorem bld_write (B b : Nat) (l : Bs) (s : ByteArray) (w : World) (h : Bld B b l w) (hlen : l.length + s.size ≤ 140737488355328) (hBw : B ≤ w.heap.size) :
    Calls Tryz.prog 45 #[.pointer (some ⟨b, 0, none⟩), .string s] w fun e w' => e = .returned (.tuple #[.int .i64 s.size, .nilIface]) ∧ Bld B b (l ++ s.data.toList) w' ∧ Below B w w' :=
  (Any.Builder_WriteString (ρ := bldRen) bldLays166 bldExtra B b _ s w h (by rw [Lib.byteCells_length]; exact hlen) hBw).mono fun _ _ ⟨h1, h2, h3⟩ => ⟨h1, by unfold Bld; rw [Lib.byteCells, List.map_append]; exact .inr h2, h3⟩
theorem bld_string (B b : Nat) (l : Bs) (w : World) (h : Bld B b l w) (hBw : B ≤ w.heap.size) :
    Calls Tryz.prog 27 #[.pointer (some ⟨b, 0, none⟩)] w fun e w' => e = .returned (.string ⟨l.toArray⟩) ∧ Below B w w' :=
  Tryz.Builder_String_any B b l w h hBw
end Go.Proofs.YtcjmfjccjhdgjaaGreatDoor
namespace Go.Bd
mutual
def each1 : Sp → Nat → List Sp
  | ⟨q, t, u, v, kids⟩, k => if q = k then ⟨q, t, u, v, kids⟩ :: eachL kids k else eachL kids k
def eachL : List Sp → Nat → List Sp
  | [], _ => []
  | x :: l, k => each1 x k ++ eachL l k
end
mutual
def many1 : Sp → Nat
  | ⟨_, _, _, _, kids⟩ => 1 + manyL kids
def manyL : List Sp → Nat
  | [] => 0
  | x :: l => many1 x + manyL l
end
mutual
def kinds1 : Sp → Bool
  | ⟨k, _, _, _, kids⟩ => decide (k ≤ 6) && kindsL kids
def kindsL : List Sp → Bool
  | [] => true
  | x :: l => kinds1 x && kindsL l
end
mutual
theorem snd_kinds1 : ∀ (x : Sp) (d : Nat), snd1 x d = true → kinds1 x = true
  | ⟨k, t, u, v, kids⟩, d, h => by
    simp only [snd1, Bool.and_eq_true] at h
    obtain ⟨⟨⟨⟨h1, _⟩, h2⟩, _⟩, _⟩ := h
    simp only [kinds1, Bool.and_eq_true]
    refine ⟨h1, ?_⟩
    split at h2
    · simp only [Bool.and_eq_true] at h2
      exact snd_kindsL kids _ _ h2.2
    · cases kids with
      | nil => rfl
      | cons x l => simp at h2
theorem snd_kindsL : ∀ (l : List Sp) (d p : Nat), sndL l d p = true → kindsL l = true
  | [], _, _, _ => rfl
  | x :: l, d, p, h => by
    simp only [sndL, Bool.and_eq_true] at h
    simp only [kindsL, Bool.and_eq_true]
    exact ⟨snd_kinds1 x d h.1.1, snd_kindsL l d _ h.2⟩
end
mutual
theorem each1_kind : ∀ (x : Sp) (k : Nat), ∀ y ∈ each1 x k, y.kind = k
  | ⟨q, t, u, v, kids⟩, k, y, hy => by
    have ih := eachL_kind kids k
    simp only [each1] at hy
    split at hy
    · rename_i hq
      rcases List.mem_cons.1 hy with rfl | hy
      · exact hq
      · exact ih y hy
    · exact ih y hy
theorem eachL_kind : ∀ (l : List Sp) (k : Nat), ∀ y ∈ eachL l k, y.kind = k
  | [], _, _, hy => by simp [eachL] at hy
  | x :: l, k, y, hy => by
    simp only [eachL, List.mem_append] at hy
    rcases hy with hy | hy
    · exact each1_kind x k y hy
    · exact eachL_kind l k y hy
end
def sum7 (f : Nat → Nat) : Nat := f 0 + f 1 + f 2 + f 3 + f 4 + f 5 + f 6
mutual
theorem each_sum1 : ∀ (x : Sp), kinds1 x = true → sum7 (fun k => (each1 x k).length) = many1 x
  | ⟨q, t, u, v, kids⟩, h => by
    simp only [kinds1, Bool.and_eq_true, decide_eq_true_eq] at h
    have ih := each_sumL kids h.2
    have e : ∀ k, (each1 ⟨q, t, u, v, kids⟩ k).length = (if q = k then 1 else 0) + (eachL kids k).length := fun k => by
      simp only [each1]; split <;> simp; omega
    simp only [sum7, e, many1] at *
    rw [← ih]
    have hq : q = 0 ∨ q = 1 ∨ q = 2 ∨ q = 3 ∨ q = 4 ∨ q = 5 ∨ q = 6 := by omega
    rcases hq with rfl | rfl | rfl | rfl | rfl | rfl | rfl <;> simp <;> omega
theorem each_sumL : ∀ (l : List Sp), kindsL l = true → sum7 (fun k => (eachL l k).length) = manyL l
  | [], _ => rfl
  | x :: l, h => by
    simp only [kindsL, Bool.and_eq_true] at h
    have h1 := each_sum1 x h.1
    have h2 := each_sumL l h.2
    simp only [sum7, eachL, manyL, List.length_append] at *
    omega
end
mutual
theorem each_none1 : ∀ (x : Sp), kinds1 x = true → each1 x 7 = []
  | ⟨q, t, u, v, kids⟩, h => by
    simp only [kinds1, Bool.and_eq_true, decide_eq_true_eq] at h
    simp only [each1]
    rw [if_neg (by omega)]
    exact each_noneL kids h.2
theorem each_noneL : ∀ (l : List Sp), kindsL l = true → eachL l 7 = []
  | [], _ => rfl
  | x :: l, h => by
    simp only [kindsL, Bool.and_eq_true] at h
    simp only [eachL, each_none1 x h.1, each_noneL l h.2, List.append_nil]
end
def Pre (a b : Pst) : Prop := a.faults <+: b.faults
theorem Pre.refl (a : Pst) : Pre a a := List.prefix_refl _
theorem Pre.trans {a b c : Pst} (h : Pre a b) (h2 : Pre b c) : Pre a c := List.IsPrefix.trans h h2
theorem Pre.tell (st : Pst) (a f : Nat) : Pre st (st.tell a f) := List.prefix_append _ _
theorem Pre.drop1 (st : Pst) : Pre st st.drop1 := by
  unfold Pst.drop1
  split
  · exact List.prefix_append _ _
  · exact Pre.refl _
theorem Pre.dropN : ∀ (n : Nat) (st : Pst), Pre st (st.dropN n)
  | 0, st => Pre.refl st
  | n + 1, st => (Pre.drop1 st).trans (Pre.dropN n _)
theorem Pre.fin (st : Pst) (n : Nat) : Pre st (st.fin n) := by
  have h := Pre.dropN (st.fs.length - 1 - n) st
  unfold Pst.fin Pst.shut
  split
  · exact h
  · exact h
theorem Pre.between (st : Pst) (s : Bs) (i : Nat) (a b : Bs) (asf : Bs → Sp ⊕ Nat) : Pre st (st.between s i a b asf).1 := by
  unfold Pst.between
  split
  · exact Pre.tell (st.write a) _ _
  · split
    · exact Pre.tell (st.write _) _ _
    · exact Pre.refl st
theorem Pre.mark (st : Pst) (s : Bs) (i k : Nat) : Pre st (st.mark s i k) := by
  unfold Pst.mark
  split
  · exact Pre.fin _ _
  · split
    · exact Pre.refl st
    · split
      · exact Pre.tell (st.write _) _ _
      · exact Pre.refl st
theorem Pre.step (st : Pst) (s : Bs) (i : Nat) : Pre st (st.step s i).1 := by
  unfold Pst.step
  split
  · exact Pre.refl st
  split
  · exact Pre.between _ _ _ _ _ _
  split
  · exact Pre.between _ _ _ _ _ _
  split
  · exact Pre.between _ _ _ _ _ _
  split
  · simp only
    split
    · exact Pre.refl st
    · exact Pre.tell (st.write _) _ _
  split
  · exact Pre.fin _ _
  split
  · exact Pre.mark _ _ _ _
  split
  · exact Pre.mark _ _ _ _
  · exact Pre.refl st
theorem Pre.run (s : Bs) : ∀ (n i : Nat) (st : Pst), Pre st (runP s n i st)
  | 0, _, st => Pre.refl st
  | n + 1, i, st => by
    rw [runP]
    split
    · exact (Pre.step st s i).trans (Pre.run s n _ _)
    · exact Pre.refl st
end Go.Bd
