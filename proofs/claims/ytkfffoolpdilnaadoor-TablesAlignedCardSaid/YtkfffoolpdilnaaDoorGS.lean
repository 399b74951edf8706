/-
  The law TablesBack: its walk.
-/
import Derived.Test.YtkfffoolpdilnaaDoorGI
import Derived.Test.YtkfffoolpdilnaaDoorGC
import Derived.Test.YtkfffoolpdilnaaDoorGG
import Derived.Test.YtkfffoolpdilnaaDoorGR
namespace Go.Proofs.YtkfffoolpdilnaaDoor
open Go.RowKit Go.Bd
theorem lineGo_bound {N : Nat} {W : List Nat} (hW : ∀ x ∈ W, x ≤ N) : ∀ (r : List ByteArray) (i : Nat), (∀ s ∈ r, s.size ≤ N) → (lineGo W i r).length ≤ r.length * (3 + N + N)
  | [], _, _ => by simp [lineGo]
  | s :: r, i, h => by
    have ih := lineGo_bound hW r (i + 1) (fun t ht => h t (List.mem_cons_of_mem _ ht))
    have hs := h s (List.mem_cons_self ..)
    have hw : W.getD i 0 ≤ N := by
      rw [List.getD_eq_getElem?_getD]
      by_cases hi : i < W.length
      · rw [List.getElem?_eq_getElem hi]; exact hW _ (List.getElem_mem hi)
      · rw [List.getElem?_eq_none (by omega)]; exact Nat.zero_le _
    rw [lineGo, List.length_cons, Nat.succ_mul]
    simp only [List.length_append, ← size_list]
    have h1 : (if 0 < i then ([32, 124, 32] : Bs) else []).length ≤ 3 := by split <;> simp
    have h2 : (if r = [] then ([] : Bs) else List.replicate (W.getD i 0 - sg s) 32).length ≤ N := by
      split
      · simp
      · rw [List.length_replicate]; omega
    omega
theorem lines_length (ls : List (List ByteArray)) : (linesOf ls).length = ls.length := by simp [linesOf]
theorem lines_get {ls : List (List ByteArray)} {k : Nat} {r : List ByteArray} (h : ls[k]? = some r) : (linesOf ls)[k]? = some ⟨(lineOf (wid ls) r).toArray⟩ := by rw [linesOf, List.getElem?_map, h]; rfl
set_option maxRecDepth 100000 in
set_option maxHeartbeats 2000000 in
theorem tablesBack_any (v : Value) (ls : List (List ByteArray)) (m : Int) (w : World) (hm : w.cell? ⟨0, 0, none⟩ = some (.int .i64 m)) (hG : Grid w w.heap.size v ls) (hl : ls.length ≤ 140737488355328) (hr : ∀ r ∈ ls, r.length ≤ 140737488355328) (hx : ∀ r ∈ ls, ∀ s ∈ r, s.size ≤ 140737488355328) :
    Calls Tryd.prog 3 #[v] w fun e w' => e = .returned (.bool true) ∧ Below w.heap.size w w' := by
  have hw0 : 0 < w.heap.size := World.block_lt_of_cell? w _ hm
  obtain ⟨A, c, rfl, hc, _⟩ := hG.form
  have HG := Lib.hid hG
  have HR := Lib.hid hr
  have HX := Lib.hid hx
  clear hG hr hx
  generalize hn : ls.length = n at hl hc ⊢
  have HN := Lib.hid hn
  clear hn
  go_enter Tryd.func3, Tryd.ntmps3
  go_wp2_with fail
  refine (alive_any m w hm).mono ?_
  rintro e w1 ⟨rfl, hb1⟩
  go_wp2_with fail
  have hG1 := HG.out.below hb1
  rw [HN.out] at hG1
  have cg := great_any (.slice A n c) ls w1 w.heap.size hG1 (by rw [HN.out]; exact hl) HR.out HX.out
  refine cg.mono ?_
  clear cg
  rintro e w1' ⟨⟨g, rfl, hg⟩, hw⟩
  subst hw
  cases g with
  | true =>
    clear hG1 hg
    go_wp2_with fail
    refine (alive_any m _ ((hb1.cell (p := ⟨0, 0, none⟩) hw0).trans hm)).mono ?_
    rintro e w2 ⟨rfl, hb2⟩
    go_wp2
    go_ret
    exact ⟨rfl, hb1.trans (hb2.mono hb1.size)⟩
  | false =>
    obtain ⟨hn2, hb5⟩ := hg rfl
    rw [HN.out] at hn2
    have HB := Lib.hid hb5
    have hs1 := hb1.size
    go_wp2_with fail
    have cl := lines_any (.slice A n c) ls w1 w.heap.size hG1 hs1 (by rw [HN.out]; omega) (fun r hr => by have := (HB.out r hr).1; omega) (fun r hr s hs => by have := (HB.out r hr).2 s hs; omega)
    rw [lines_length, HN.out] at cl
    refine cl.mono ?_
    clear cl hG1 hg hb5 HR HX
    rintro e w2 ⟨vL, rfl, hoL, hb2⟩
    have hRL := own_rd hoL
    replace hb2 := hb1.trans (hb2.mono hb1.size)
    have hs2 := hb2.size
    obtain ⟨Lb, cL, rfl, hcL, fL⟩ := (show Texts w2 w2.heap.size vL (linesOf ls) from hRL).form
    rw [lines_length, HN.out] at hcL
    rw [lines_length, HN.out]
    have FL := Lib.hid fL
    clear fL hRL hoL
    have hG2 := HG.out.below hb2
    rw [HN.out] at hG2
    obtain ⟨_, _, e1, _, f⟩ := hG2.form
    rw [HN.out] at e1
    cases e1
    have F := Lib.hid f
    clear f hG2
    go_wp2
    go_loopg [4] n (fun r i wr => ∃ k : Nat, k + r = n ∧ i = .int .i64 k ∧ Below w2.heap.size w2 wr)
    case atStart => exact ⟨0, by omega, rfl, Below.refl _ _⟩
    case round =>
      obtain ⟨k, hk, rfl, hbl⟩ := hrel
      by_cases hlt : k < n
      · obtain ⟨r, hrk⟩ : ∃ r, ls[k]? = some r := ⟨_, List.getElem?_eq_getElem (by rw [HN.out]; exact hlt)⟩
        obtain ⟨b, off, rA, rc, rfl, hbB, hcr, htx⟩ := F.out k r hrk
        obtain ⟨b3, off3, rfl, hb3, hcl⟩ := FL.out k _ (lines_get hrk)
        replace hcr := (hbl.cell (p := ⟨b, off + k, none⟩) (Nat.lt_of_lt_of_le hbB hs2)).trans hcr
        replace hcl := (hbl.cell (p := ⟨b3, off3 + k, none⟩) hb3).trans hcl
        obtain ⟨hrl, hrs⟩ := HB.out r (List.mem_of_getElem? hrk)
        have hlb := lineGo_bound (W := wid ls) (N := 5000) (wid_bound (fun q hq => (HB.out q hq).2)) r 0 hrs
        have htx2 := htx.below (hbl.mono (by omega) : Below w.heap.size w2 wr)
        have HT := Lib.hid htx2
        have HRS := Lib.hid hrs
        have P1 := fun (hne : r ≠ []) (hall : ∀ x ∈ r, cleanB x = true) => (show rowOf (barred ⟨(lineOf (wid ls) r).toArray⟩) = r by
          cases r with
          | nil => exact absurd rfl hne
          | cons s r => exact rowOf_barred (wid ls) s r hall)
        have HP := Lib.hid P1
        obtain ⟨_, _, e1, hrc, ft⟩ := htx2.form
        cases e1
        have FT := Lib.hid ft
        rw [show lineGo (wid ls) 0 r = lineOf (wid ls) r from rfl] at hlb
        have hbar : (barred ⟨(lineOf (wid ls) r).toArray⟩).size ≤ 60000000 := by
          rw [size_list, barred_list]
          simp only [List.length_cons, List.length_append, List.length_nil]
          omega
        have cr := fun W h => row_some (barred ⟨(lineOf (wid ls) r).toArray⟩) W m h (by omega) (begins_barred _)
        clear hrk htx htx2 hrs ft P1 hlb
        generalize (⟨(lineOf (wid ls) r).toArray⟩ : ByteArray) = line at hcl hbar cr HP
        have HBar := Lib.hid hbar
        clear hbar
        unfold barred at cr
        obtain ⟨gO, hgO⟩ : ∃ g, g = gk := ⟨_, rfl⟩
        subst hgO
        obtain ⟨wO, hwO⟩ : ∃ x, x = wr := ⟨_, rfl⟩
        subst hwO
        generalize hm' : r.length = m' at hrl hrc hcr
        have HM := Lib.hid hm'
        clear hm'
        by_cases h0 : m' = 0
        · subst h0
          go_wp2
          go_roundg (gO - 1)
          case measure => omega
          case rel => exact ⟨k + 1, by omega, by go_num, hbl⟩
        · obtain ⟨last, hlast⟩ : ∃ s, r[m' - 1]? = some s := ⟨_, List.getElem?_eq_getElem (by rw [HM.out]; omega)⟩
          obtain ⟨b2, off2, rfl, hb2', hcs⟩ := FT.out (m' - 1) last hlast
          clear hlast
          obtain ⟨m1, rfl⟩ : ∃ m1, m' = m1 + 1 := ⟨m' - 1, by omega⟩
          simp only [Nat.add_sub_cancel] at hcs
          by_cases hle : last = ⟨#[]⟩
          · subst hle
            go_wp2
            go_roundg (gO - 1)
            case measure => omega
            case rel => exact ⟨k + 1, by omega, by go_num, hbl⟩
          · have hne := ba_nonempty hle
            go_wp2
            go_loopg [6, 7] (m1 + 1) (fun q v i wr => ∃ (j : Nat) (ok : Bool), j + q = m1 + 1 ∧ i = .int .i64 j ∧ v = .bool ok ∧ Hid (ok = (r.take j).all cleanB) ∧ wO = wr)
            case atStart => exact ⟨0, true, by omega, rfl, rfl, rfl, rfl⟩
            case round =>
              obtain ⟨j, ok, hj, rfl, rfl, HO, rfl⟩ := hrel
              by_cases hjl : j < m1 + 1
              · obtain ⟨x, hx⟩ : ∃ x, r[j]? = some x := ⟨_, List.getElem?_eq_getElem (by rw [HM.out]; exact hjl)⟩
                obtain ⟨_, _, e5, _, hcx⟩ := FT.out j x hx
                cases e5
                have hsz := HRS.out x (List.mem_of_getElem? hx)
                have cc := clean_any x wO (by omega)
                have HS : Hid ((r.take (j + 1)).all cleanB = ((r.take j).all cleanB && cleanB x)) := by
                  unfold Hid
                  rw [List.take_add_one, hx, List.all_append]; simp
                clear hx
                cases ok with
                | true =>
                  go_wp2_with (go_at_call 11; refine cc.mono ?_; rintro e w' ⟨rfl, rfl⟩)
                  go_roundg (gk - 1)
                  case measure => omega
                  case rel => exact ⟨j + 1, cleanB x, by omega, by go_num, rfl, by unfold Hid; rw [HS.out, ← HO.out]; rfl, rfl⟩
                | false =>
                  go_wp2
                  go_roundg (gk - 1)
                  case measure => omega
                  case rel => exact ⟨j + 1, false, by omega, by go_num, rfl, by unfold Hid; rw [HS.out, ← HO.out]; rfl, rfl⟩
              · have HO2 : Hid (ok = r.all cleanB) := by
                  unfold Hid
                  rw [HO.out, List.take_of_length_le (by rw [HM.out]; omega)]
                clear HO hcs
                have hbw : Below w.heap.size w wO := hb2.trans (hbl.mono hs2)
                have cr1 := cr wO ((hbw.cell (p := ⟨0, 0, none⟩) hw0).trans hm)
                clear cr
                have hbar2 := HBar.out
                have hsz5 : (show ByteArray from ⟨#[124, 32]⟩ ++ line).size ≤ 60000000 := by
                  unfold barred at hbar2
                  rw [ByteArray.size_append] at hbar2
                  exact Nat.le_trans (Nat.le_add_right _ _) hbar2
                have hsz6 : line.size ≤ 60000000 := by
                  have h := hsz5
                  rw [show (show ByteArray from ⟨#[124, 32]⟩ ++ line) = (⟨#[124, 32]⟩ ++ line : ByteArray) from rfl, ByteArray.size_append] at h
                  omega
                clear hbar2 hsz5
                go_wp2_with fail
                refine cr1.mono ?_
                clear cr1
                rintro e w6 ⟨v6, rfl, ho6, hb6⟩
                have hbl6 := hbl.trans (hb6.mono hbl.size)
                cases ok with
                | false =>
                  go_wp2
                  go_roundg (gO - 1)
                  case measure => omega
                  case rel => exact ⟨k + 1, by omega, by go_num, hbl6⟩
                | true =>
                  have hrow : rowOf (barred line) = r := HP.out (fun e => by have := HM.out; rw [e] at this; simp at this) (fun x hx => by have := HO2.out; rw [eq_comm, List.all_eq_true] at this; exact this x hx)
                  unfold barred at hrow
                  rw [hrow] at ho6
                  have hR6 := own_rd ho6
                  have hT6 := (HT.out.below (hb6.mono hbw.size)).more (Nat.le_trans hbw.size hb6.size)
                  have cs := sameTexts_any v6 _ r r w6 w6.heap.size hR6 hT6 (by rw [HM.out]; omega) (by rw [HM.out]; omega)
                  rw [decide_eq_true rfl, HM.out] at cs
                  replace hcr := (hb6.cell (p := ⟨b, off + k, none⟩) (World.block_lt_of_cell? _ _ hcr)).trans hcr
                  clear hrow ho6 hR6 hT6
                  go_wp2_with (go_at_call 13; refine cs.mono ?_; rintro e w7 ⟨rfl, hb7⟩)
                  go_roundg (gO - 1)
                  case measure => omega
                  case rel => exact ⟨k + 1, by omega, by go_num, hbl6.trans (hb7.mono hbl6.size)⟩
      · go_wp2
        go_ret
        exact ⟨rfl, hb2.trans (hbl.mono hs2)⟩
end Go.Proofs.YtkfffoolpdilnaaDoor
