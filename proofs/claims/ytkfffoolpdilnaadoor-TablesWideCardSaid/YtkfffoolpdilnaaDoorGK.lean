/-
  The law TablesWide: its walk.
-/
import Derived.Test.YtkfffoolpdilnaaDoorGI
import Derived.Test.YtkfffoolpdilnaaDoorGC
import Derived.Test.YtkfffoolpdilnaaDoorVec2
namespace Go.Proofs.YtkfffoolpdilnaaDoor
open Go.RowKit Go.Bd
theorem strs_info : (Tryd.prog.info? 25).map (fun i => (i.zero, i.size, i.bytes)) = some (some (.slice none 0 0), 1, 24) := by kernel_rfl
/-- a row of rows that the call has made itself, of rows that were there -/
def Rows1 (w : World) (B : Nat) (TV : List Value) (ls : List (List ByteArray)) : Prop := TV.length = ls.length ∧ ∀ (j : Nat) r, ls[j]? = some r → ∃ rv, TV[j]? = some rv ∧ Texts w B rv r
theorem Rows1.snoc {w : World} {B : Nat} {TV : List Value} {ls : List (List ByteArray)} (h : Rows1 w B TV ls) {rv : Value} {r : List ByteArray} (hr : Texts w B rv r) : Rows1 w B (TV ++ [rv]) (ls ++ [r]) := by
  refine ⟨by simp [h.1], fun j q hj => ?_⟩
  by_cases hlt : j < ls.length
  · rw [List.getElem?_append_left hlt] at hj
    rw [List.getElem?_append_left (by rw [h.1]; exact hlt)]
    exact h.2 j q hj
  · rw [List.getElem?_append_right (by omega)] at hj
    obtain ⟨e, rfl⟩ : j - ls.length = 0 ∧ r = q := by
      cases hjj : j - ls.length with
      | zero => rw [hjj] at hj; exact ⟨rfl, by simpa using hj⟩
      | succ n => rw [hjj] at hj; simp at hj
    refine ⟨rv, ?_, hr⟩
    rw [List.getElem?_append_right (by rw [h.1]; omega), h.1, e]; rfl
theorem Rows1.below {w w' : World} {B : Nat} {TV : List Value} {ls : List (List ByteArray)} (h : Rows1 w B TV ls) (hb : Below B w w') : Rows1 w' B TV ls :=
  ⟨h.1, fun j r hj => by obtain ⟨rv, h1, h2⟩ := h.2 j r hj; exact ⟨rv, h1, h2.below hb⟩⟩
theorem Rows1.more {w : World} {B B' : Nat} {TV : List Value} {ls : List (List ByteArray)} (h : Rows1 w B TV ls) (hB : B ≤ B') : Rows1 w B' TV ls :=
  ⟨h.1, fun j r hj => by obtain ⟨rv, h1, h2⟩ := h.2 j r hj; exact ⟨rv, h1, h2.more hB⟩⟩
theorem Rows1.grid {w : World} {TV : List Value} {ls : List (List ByteArray)} {base : Nat} {v : Value} {n : Nat} (h : Rows1 w w.heap.size TV ls) (ho : w.ownsRow base 25 1 v n TV) : Grid w w.heap.size v ls :=
  ⟨TV, own_rd ho, h.1, h.2⟩
theorem reverse_take_succ {ls : List (List ByteArray)} {n k r : Nat} {row : List ByteArray} (hn : ls.length = n) (hk : k + (r + 1) = n) (h : ls[r]? = some row) : ls.reverse.take (k + 1) = ls.reverse.take k ++ [row] := by
  have hlt : k < ls.reverse.length := by rw [List.length_reverse]; omega
  rw [List.take_succ_eq_append_getElem hlt, List.getElem_reverse]
  have e : ls.length - 1 - k = r := by omega
  have h2 := (List.getElem?_eq_some_iff.1 h).2
  simp only [e, h2]
theorem most_snoc (ls : List (List ByteArray)) (r : List ByteArray) : most (ls ++ [r]) = max (most ls) r.length := by simp [most, List.foldl_append]
theorem most_bound {N : Nat} : ∀ {ls : List (List ByteArray)} {n : Nat}, n ≤ N → (∀ r ∈ ls, r.length ≤ N) → ls.foldl (fun n r => max n r.length) n ≤ N
  | [], _, hn, _ => hn
  | r :: ls, n, hn, h => by
    rw [List.foldl_cons]
    have := h r (List.mem_cons_self ..)
    exact most_bound (by omega) (fun q hq => h q (List.mem_cons_of_mem _ hq))
set_option maxRecDepth 100000 in
set_option maxHeartbeats 2000000 in
theorem tablesWide_any (v : Value) (ls : List (List ByteArray)) (m : Int) (w : World) (hm : w.cell? ⟨0, 0, none⟩ = some (.int .i64 m)) (hG : Grid w w.heap.size v ls) (hl : ls.length ≤ 140737488355328) (hr : ∀ r ∈ ls, r.length ≤ 140737488355328) (hx : ∀ r ∈ ls, ∀ s ∈ r, s.size ≤ 140737488355328) :
    Calls Tryd.prog 6 #[v] w fun e w' => e = .returned (.bool true) ∧ Below w.heap.size w w' := by
  have hw0 : 0 < w.heap.size := World.block_lt_of_cell? w _ hm
  obtain ⟨A, c, rfl, hc, _⟩ := hG.form
  have HG := Lib.hid hG
  have HR := Lib.hid hr
  have HX := Lib.hid hx
  clear hG hr hx
  generalize hn : ls.length = n at hl hc ⊢
  have HN := Lib.hid hn
  clear hn
  go_enter Tryd.func6, Tryd.ntmps6
  go_wp2_with fail
  refine (alive_any m w hm).mono ?_
  rintro e w1 ⟨rfl, hb1⟩
  go_wp2_with fail
  have hG1 := HG.out.below hb1
  rw [HN.out] at hG1
  have cg := great_any (.slice A n c) ls w1 w.heap.size hG1 (by rw [HN.out]; exact hl) HR.out HX.out
  refine cg.mono ?_
  clear cg
  rintro e w1' ⟨⟨g, rfl, hg⟩, hw⟩
  subst hw
  cases g with
  | true =>
    clear hG1 hg
    go_wp2_with fail
    refine (alive_any m _ ((hb1.cell (p := ⟨0, 0, none⟩) hw0).trans hm)).mono ?_
    rintro e w2 ⟨rfl, hb2⟩
    go_wp2
    go_ret
    exact ⟨rfl, hb1.trans (hb2.mono hb1.size)⟩
  | false =>
    obtain ⟨hn2, hb5⟩ := hg rfl
    rw [HN.out] at hn2
    have HB := Lib.hid hb5
    obtain ⟨_, _, e1, _, f⟩ := hG1.form
    rw [HN.out] at e1
    cases e1
    have F := Lib.hid f
    clear hG1 hg hb5 f HR HX
    have hs1 := hb1.size
    go_wp2_with fail
    go_loopg [3, 4, 5] n (fun r v t i wr => ∃ (k tt : Nat) (TV : List Value), k + r = n ∧ i = .int .i64 ((r : Int) - 1) ∧ t = .int .i64 tt ∧ tt ≤ 5000 ∧ Hid (tt = most (ls.reverse.take k)) ∧ wr.ownsRow w1.heap.size 25 1 v k TV ∧ Hid (Rows1 wr w.heap.size TV (ls.reverse.take k)) ∧ Below w1.heap.size w1 wr)
    case atStart => exact ⟨0, 0, [], by omega, by go_num, rfl, by omega, by unfold Hid; rfl, World.ownsRow_nil _ _ _ _, ⟨by simp, fun _ _ h => by simp at h⟩, Below.refl _ _⟩
    case round =>
      obtain ⟨k, tt, TV, hk, rfl, rfl, htt, HT, hown, HV, hbl⟩ := hrel
      cases gk with
      | succ r' =>
        obtain ⟨row, hrk⟩ : ∃ r, ls[r']? = some r := ⟨_, List.getElem?_eq_getElem (by rw [HN.out]; omega)⟩
        obtain ⟨b, off, rA, rc, rfl, hbB, hcr, htx⟩ := F.out r' row hrk
        have hcr1 := (hbl.cell (p := ⟨b, off + r', none⟩) (Nat.lt_of_lt_of_le hbB hs1)).trans hcr
        have hrl := (HB.out row (List.mem_of_getElem? hrk)).1
        have HS := Lib.hid (reverse_take_succ HN.out hk hrk)
        have HM2 := Lib.hid (most_snoc (ls.reverse.take k) row)
        have HTX := Lib.hid htx
        clear htx hrk
        generalize hrn : row.length = rl at hcr hcr1 hrl
        have HRN := Lib.hid hrn
        clear hrn
        have e3 : (((r' + 1 : Nat) : Int) - 1) = (r' : Int) := by omega
        rw [e3]
        clear e3
        have hsz := hbl.size
        go_wp2_with (at_builtin; refine wpList_app1 _ rfl _ _ 22 rfl w1.heap.size 25 (.slice none 0 0) 24 Tryd.underlying22 strs_info rfl _ k _ rfl (hown.alloc _) _ 1 (.slice rA rl rc) rfl (by simp) rfl (by unfold maxLen; omega) (by omega) (by simp; omega) ?_)
        intro v5 w5 hown5 hgr5
        have hbl5 : Below w1.heap.size w1 w5 := (hbl.alloc hsz _).grown hgr5 (by simp; omega) (fun q hq => (hown.lt q hq).1)
        have hcr5 := (hbl5.cell (p := ⟨b, off + r', none⟩) (Nat.lt_of_lt_of_le hbB hs1)).trans hcr
        have HV5 : Hid (Rows1 w5 w.heap.size (TV ++ [.slice rA rl rc]) (ls.reverse.take (k + 1))) := by
          unfold Hid
          rw [HS.out]
          have hbx : Below w.heap.size w1 w5 := hbl5.mono hs1
          refine Rows1.snoc ⟨HV.out.1, fun j r hj => ?_⟩ ?_
          · obtain ⟨rv, h1, h2⟩ := HV.out.2 j r hj
            exact ⟨rv, h1, h2.below (((Below.refl _ _).alloc (by omega) _).grown hgr5 (by simp; omega) (fun q hq => by have := (hown.lt q hq).1; omega))⟩
          · have := HTX.out.below hbx
            rw [HRN.out] at this
            exact this
        have HM3 : Hid (max tt rl = most (ls.reverse.take (k + 1))) := by
          unfold Hid
          rw [HS.out, HM2.out, ← HT.out, HRN.out]
        clear hcr hcr1 hown hbl
        go_wp2
        go_roundg r'
        case measure => omega
        case rel => exact ⟨k + 1, max tt rl, _, by omega, by go_num, by congr 1; omega, by omega, HM3, hown5, HV5, hbl5⟩
      | zero =>
        obtain rfl : k = n := by omega
        have e4 : ls.reverse.take k = ls.reverse := List.take_of_length_le (by rw [List.length_reverse, HN.out]; exact Nat.le_refl _)
        have hV := HV.out
        have hT := HT.out
        rw [e4] at hV hT
        have hmost : tt = (wid ls).length := by rw [hT, ← wid_length, wid_reverse]
        clear HV HT e4 hT
        have hsz := hbl.size
        have hGt := (hV.more (by omega : w.heap.size ≤ wr.heap.size)).grid hown
        have hbw := hb1.trans (hbl.mono hs1)
        have hGl := HG.out.below hbw
        rw [HN.out] at hGl
        have hB2 : ∀ r ∈ ls, r.length ≤ 1048576 := fun r hr => by have := (HB.out r hr).1; omega
        have hB3 : ∀ r ∈ ls, ∀ s ∈ r, s.size ≤ 1048576 := fun r hr s hs => by have := (HB.out r hr).2 s hs; omega
        have cW := widths_any (.slice A k c) ls wr w.heap.size hGl hbw.size (by rw [HN.out]; omega) hB2 hB3
        rw [← hmost] at cW
        have hmb := wid_bound (fun r hr s hs => (HB.out r hr).2 s hs)
        have e5 : (((0 : Nat) : Int) - 1) = -1 := by omega
        rw [e5]
        clear e5
        go_wp2_with fail
        refine cW.mono ?_
        clear cW
        rintro e w6 ⟨v6, rfl, ho6, hb6⟩
        obtain ⟨A6, c6, rfl, hc6⟩ := own_slice ho6
        have hW6 : Rd w6 w6.heap.size (.slice A6 tt c6) ((wid ls).map natV) := own_rd ho6
        have hs6 := hb6.size
        have hown6 := own_below hown hb6
        have hGt6 := (hGt.below hb6).more hs6
        have hV6 : Rows1 w6 w6.heap.size TV ls.reverse := (hV.below (hb6.mono hbw.size)).more (Nat.le_trans hbw.size hs6)
        have hwl := wid_length ls.reverse
        have hmost2 := Lib.hid hmost
        have hwb : (wid ls).length ≤ 140737488355328 := by rw [← hmost]; omega
        have hwlL := hwl
        have HVk := hV
        have HOk := hown
        have hbR6 := hb6
        have ho6k := ho6
        clear hown hGt hV hGl hmost hwl hwlL
        go_wp2_with (at_make; refine wpList_make1 _ rfl _ _ 25 rfl w6.heap.size 9 (.string ⟨#[]⟩) 16 Tryd.underlying25 str_info rfl _ _ _ _ tt rfl rfl (by omega) (by omega) (by omega) (by unfold maxLen; omega) (Nat.le_refl _) ?_)
        intro w7 hown7 hgr7
        have hb7 : Below w6.heap.size w6 w7 := (Below.refl _ _).grown hgr7 (Nat.le_refl _) (fun k h => by cases h)
        have ho7k := hown7
        have hE7 : Texts w7 w7.heap.size (.slice (some ⟨w6.heap.size, 0, none⟩) tt tt) (List.replicate tt ⟨#[]⟩) := by
          unfold Texts
          rw [List.map_replicate]
          exact own_rd hown7
        have hW7 := (hW6.below hb7).more hb7.size
        have hGt7 := (hGt6.below hb7).more hb7.size
        have hown8 := own_below hown6 hb7
        have hV7 := (hV6.below hb7).more hb7.size
        clear hW6 hGt6 hown6 hV6 hown7 hgr7
        have hB4 : ∀ r ∈ ls.reverse, r.length ≤ 1048576 := fun r hr => hB2 r (List.mem_reverse.1 hr)
        have hB5 : ∀ r ∈ ls.reverse, ∀ s ∈ r, s.size ≤ 1048576 := fun r hr => hB3 r (List.mem_reverse.1 hr)
        have cT := widths_any _ ls.reverse w7 w7.heap.size hGt7 (Nat.le_refl _) (by rw [List.length_reverse, HN.out]; omega) hB4 hB5
        rw [wid_reverse, ← hmost2.out] at cT
        have hbw7 := (hbw.trans (hb6.mono hbw.size)).trans (hb7.mono (Nat.le_trans hbw.size hs6))
        clear hB2 hB3
        go_wp2_with fail
        refine cT.mono ?_
        clear cT
        rintro e w8 ⟨v8, rfl, ho8, hb8⟩
        have hW8 := (hW7.below hb8).more hb8.size
        have cS := sameInts_any v8 _ (wid ls) (wid ls) w8 w8.heap.size (own_rd ho8) hW8 hwb hwb
        rw [decide_eq_true rfl] at cS
        have hown9 := own_below hown8 hb8
        have hV8 := (hV7.below hb8).more hb8.size
        have hE8 := (hE7.below hb8).more hb8.size
        replace hbw7 := hbw7.trans (hb8.mono hbw7.size)
        go_wp2_with fail
        refine cS.mono ?_
        clear cS ho8
        rintro e w9 ⟨rfl, hb9⟩
        have hW9 := (hW8.below hb9).more hb9.size
        have hown10 := own_below hown9 hb9
        have hV9 := (hV8.below hb9).more hb9.size
        have hE9 := (hE8.below hb9).more hb9.size
        replace hbw7 := hbw7.trans (hb9.mono hbw7.size)
        have hs17 : w1.heap.size ≤ w9.heap.size := by have := hb7.size; have := hb8.size; have := hb9.size; omega
        clear hW8 hown9 hV8 hE8 hW7 hown8 hV7 hE7 hGt7
        have hsz9 := hb7.size
        go_wp2_with (at_builtin; refine wpList_app1g _ (by rfl) _ _ 22 rfl w1.heap.size 25 (.slice none 0 0) 24 Tryd.underlying22 strs_info rfl _ k _ rfl (hown10.alloc _) _ 1 (.slice (some ⟨w6.heap.size, 0, none⟩) tt tt) rfl (by simp) rfl (by unfold maxLen; omega) (by omega) (by simp; omega) ?_)
        intro v11 w11 hown11 hgr11
        have hb11s : w9.heap.size ≤ w11.heap.size := by have := hgr11.size; simp at this; omega
        have hbR9 : Below wr.heap.size wr w9 := ((hb6.trans (hb7.mono hs6)).trans (hb8.mono (Nat.le_trans hs6 hsz9))).trans (hb9.mono (Nat.le_trans (Nat.le_trans hs6 hsz9) hb8.size))
        have hb69 : Below w6.heap.size w6 w9 := (hb7.trans (hb8.mono hsz9)).trans (hb9.mono (Nat.le_trans hsz9 hb8.size))
        have hb79 : Below w7.heap.size w7 w9 := hb8.trans (hb9.mono hb8.size)
        have hlt := hown10.lt
        have hlt2 := fun q hq => (HOk.lt q hq)
        have hbW11 : Below w1.heap.size w9 w11 := ((Below.refl _ _).alloc hs17 _).grown hgr11 (by simp; omega) (fun q hq => (hlt q hq).1)
        have hV11 : Rows1 w11 w.heap.size TV ls.reverse := (HVk.below (hbR9.mono (by omega))).below (hbW11.mono hs1)
        have hW11 := own_rd (((own_below ho6k hb69).alloc (.cells #[.slice (some ⟨w6.heap.size, 0, none⟩) tt tt] 25)).kept hgr11 (by
          cases hq : (Value.slice A6 tt c6).ownBlock with
          | none => exact Or.inl rfl
          | some q =>
            refine Or.inr fun e => ?_
            have h1 := (ho6k.lt q hq).1
            have h2 := (hlt2 q e.symm).2
            omega))
        have hE11 := own_rd (((own_below ho7k hb79).alloc (.cells #[.slice (some ⟨w6.heap.size, 0, none⟩) tt tt] 25)).kept hgr11 (Or.inr fun e => by
            have h2 := (hlt2 w6.heap.size e.symm).2
            omega))
        have hGt11 := ((hV11.more (Nat.le_trans hbw.size (Nat.le_trans hbR9.size hb11s)) : Rows1 w11 w11.heap.size TV ls.reverse).snoc (r := List.replicate tt ⟨#[]⟩) (by unfold Texts; rw [List.map_replicate]; exact hE11)).grid hown11
        have cT2 := widths_any _ (ls.reverse ++ [List.replicate tt ⟨#[]⟩]) w11 w11.heap.size hGt11 (Nat.le_refl _) (by rw [List.length_append, List.length_reverse, HN.out]; simp; omega)
          (fun r hr => by
            rcases List.mem_append.1 hr with h | h
            · exact hB4 r h
            · rw [List.mem_singleton] at h; subst h; rw [List.length_replicate]; omega)
          (fun r hr => by
            rcases List.mem_append.1 hr with h | h
            · exact hB5 r h
            · rw [List.mem_singleton] at h; subst h
              intro s hs
              rw [(List.mem_replicate.1 hs).2]
              show 0 ≤ _
              omega)
        have hwid : wid (ls.reverse ++ [List.replicate tt ⟨#[]⟩]) = wid ls := by
          rw [wid, List.foldl_append, ← wid, wid_reverse]
          exact colRow_blank _ _ (Nat.le_of_eq hmost2.out)
        rw [hwid] at cT2
        clear hlt hlt2 hGt11 hwid hV11 hE11 hE9 hV9 hown10 hW9 HVk HOk ho6k ho7k
        have hbZ : Below w.heap.size w w11 := hbw7.trans (hbW11.mono hs1)
        go_wp2_with fail
        refine cT2.mono ?_
        clear cT2
        rintro e w12 ⟨v12, rfl, ho12, hb12⟩
        have hW12 := (hW11.below hb12).more hb12.size
        have cS2 := sameInts_any v12 _ (wid ls) (wid ls) w12 w12.heap.size (own_rd ho12) hW12 hwb hwb
        rw [decide_eq_true rfl] at cS2
        replace hbZ := hbZ.trans (hb12.mono hbZ.size)
        clear hW11 hW12 ho12
        go_wp2_with fail
        refine cS2.mono ?_
        clear cS2
        rintro e w13 ⟨rfl, hb13⟩
        go_wp2
        go_ret
        exact ⟨rfl, hbZ.trans (hb13.mono hbZ.size)⟩
end Go.Proofs.YtkfffoolpdilnaaDoor
