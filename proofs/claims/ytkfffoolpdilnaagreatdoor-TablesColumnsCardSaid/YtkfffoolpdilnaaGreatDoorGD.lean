/-
  Walks: the columns of texts.
-/
import Derived.Test.YtkfffoolpdilnaaGreatDoorGA
namespace Go.Proofs.YtkfffoolpdilnaaGreatDoor
open Go.RowKit Go.Bd
def natV (n : Nat) : Value := .int .i64 (n : Int)
theorem int_info : (Tryz.prog.info? 3).map (fun i => (i.zero, i.size, i.bytes)) = some (some (.int .i64 0), 1, 8) := by kernel_rfl
theorem getElem?_map_natV {L : List Nat} {j : Nat} {x : Nat} (h : L[j]? = some x) : (L.map natV)[j]? = some (.int .i64 (x : Int)) := by rw [List.getElem?_map, h]; rfl
theorem mem_set_le {L : List Nat} {j m N : Nat} (h : ∀ x ∈ L, x ≤ N) (hm : m ≤ N) : ∀ x ∈ L.set j m, x ≤ N := fun x hx => by
  rcases List.mem_or_eq_of_mem_set hx with h' | rfl
  · exact h x h'
  · exact hm
set_option maxRecDepth 100000 in
set_option maxHeartbeats 1000000 in
theorem columns_any (v : Value) (ls : List (List ByteArray)) (w : World) (B : Nat) (h : Grid w B v ls) (hB : B ≤ w.heap.size) (hl : ls.length ≤ 1048576) (hr : ∀ r ∈ ls, r.length ≤ 1048576) (hx : ∀ r ∈ ls, ∀ s ∈ r, s.size ≤ 1048576) :
    Calls Tryz.prog 22 #[v, .func (.func 23) #[] #[]] w fun e w' => ∃ v', e = .returned v' ∧ w'.ownsRow w.heap.size 3 1 v' (wid ls).length ((wid ls).map natV) ∧ Below w.heap.size w w' := by
  obtain ⟨A, c, rfl, hc, f⟩ := h.form
  have F := Lib.hid f
  have HX := Lib.hid hx
  have HR := Lib.hid hr
  clear f hx hr h
  generalize hn : ls.length = n at hl hc ⊢
  have HN := Lib.hid hn
  clear hn
  go_enter Tryz.func22, Tryz.ntmps22
  go_wp2
  go_loopg [5, 13] n (fun r v i wr => ∃ (k : Nat) (L : List Nat), k + r = n ∧ i = .int .i64 k ∧ Hid ((ls.take k).foldl colRow [] = L) ∧ Hid (∀ x ∈ L, x ≤ 1048576) ∧ wr.ownsRow w.heap.size 3 1 v L.length (L.map natV) ∧ Below w.heap.size w wr)
  case atStart => exact ⟨0, [], by omega, rfl, by unfold Hid; simp, by unfold Hid; simp, World.ownsRow_nil _ _ _ _, Below.refl _ _⟩
  case round =>
    obtain ⟨k, W, hk, rfl, HW, HB, hown, hbl⟩ := hrel
    by_cases hlt : k < n
    · obtain ⟨r, hrk⟩ : ∃ r, ls[k]? = some r := ⟨_, List.getElem?_eq_getElem (by rw [HN.out]; exact hlt)⟩
      obtain ⟨b, off, rA, rc, rfl, hbB, hcr, htx⟩ := F.out k r hrk
      replace hcr := (hbl.cell (p := ⟨b, off + k, none⟩) (Nat.lt_of_lt_of_le hbB hB)).trans hcr
      have hmem := List.mem_of_getElem? hrk
      have hrl := HR.out r hmem
      have HXR := Lib.hid (HX.out r hmem)
      obtain ⟨_, _, e1, hrc, ft⟩ := htx.form
      cases e1
      have FT := Lib.hid ft
      have HK := Lib.hid hrk
      clear hrk hmem htx ft
      generalize hm : r.length = m at hrl hrc hcr
      have HM := Lib.hid hm
      clear hm
      obtain ⟨gO, hgO⟩ : ∃ g, g = gk := ⟨_, rfl⟩
      subst hgO
      go_wp2
      go_loopg [5, 19] m (fun q v i wr => ∃ (j : Nat) (L : List Nat), j + q = m ∧ i = .int .i64 j ∧ Hid (colRow W (r.take j) = L) ∧ Hid (∀ x ∈ L, x ≤ 1048576) ∧ wr.ownsRow w.heap.size 3 1 v L.length (L.map natV) ∧ Below w.heap.size w wr)
      case atStart => exact ⟨0, W, by omega, rfl, by unfold Hid; rw [List.take_zero, colRow_nil], HB, hown, hbl⟩
      case round =>
        clear hown hbl hcr
        obtain ⟨j, L, hj, rfl, HL, HBL, hown, hbl⟩ := hrel
        by_cases hjlt : j < m
        · obtain ⟨s, hs⟩ : ∃ s, r[j]? = some s := ⟨_, List.getElem?_eq_getElem (by rw [HM.out]; exact hjlt)⟩
          obtain ⟨b2, off2, rfl, hb2, hcs⟩ := FT.out j s hs
          replace hcs := (hbl.cell (p := ⟨b2, off2 + j, none⟩) (Nat.lt_of_lt_of_le hb2 hB)).trans hcs
          have hsz := HXR.out s (List.mem_of_getElem? hs)
          have hsg := sg_le s
          have hjl : j ≤ L.length := by
            have := HL.out
            rw [← this, colRow_length, List.length_take, HM.out]; omega
          have HS := Lib.hid hs
          clear hs
          by_cases hnew : L.length = j
          · have HG := Lib.hid (colRow_new W r j s HS.out (by
              have e1 := hnew
              rw [← HL.out, colRow_length] at e1
              omega))
            have cj := fun w' => join_any 0 s w' (by omega)
            rw [Nat.zero_max, show ((0 : Nat) : Int) = 0 from rfl] at cj
            rw [hnew] at hown
            obtain ⟨A2, cap, rfl, hcap⟩ := own_slice hown
            go_wp2_with (at_builtin; refine wpList_app1 _ rfl _ _ 25 rfl w.heap.size 3 (.int .i64 0) 8 Tryz.underlying25 int_info rfl _ j _ rfl (hown.alloc _) _ 1 (.int .i64 0) rfl (by simp) rfl (by unfold maxLen; omega) (by omega) (by have := hbl.size; simp; omega) ?_)
            intro v1 w1 hown1 hgr1
            have hbl1 : Below w.heap.size w w1 := (hbl.alloc hbl.size _).grown hgr1 (by have := hbl.size; simp; omega) (fun q hq => (hown.lt q hq).1)
            obtain ⟨g, cap1, rfl, hg1, hg2, hcap1, _, _⟩ := own_some hown1 (by omega)
            have HJ := Lib.hid (show (L.map natV ++ [Value.int .i64 0])[j]? = some (.int .i64 0) by rw [List.getElem?_append_right (by simp; omega)]; simp [hnew])
            have hcx := own_cell hown1 HJ.out
            replace hcs : w1.cell? ⟨b2, off2 + j, none⟩ = some (.string s) := (hbl1.cell (p := ⟨b2, off2 + j, none⟩) (Nat.lt_of_lt_of_le hb2 hB)).trans ((hbl.cell (p := ⟨b2, off2 + j, none⟩) (Nat.lt_of_lt_of_le hb2 hB)).symm.trans hcs)
            go_wp2_with (go_at_call 23; refine (cj _).mono ?_; rintro e w3 ⟨rfl, hb3⟩; have hown3 := own_below hown1 hb3; have hc3 := own_cell hown3 HJ.out; have hf3 := own_free hown3 j)
            have hset := own_set hown3 j (natV (sg s))
            have hbl3 := (hbl1.trans (hb3.mono hbl1.size)).setCell (p := ⟨g, j, none⟩) hg1 (natV (sg s))
            go_roundg (gk - 1)
            case measure => omega
            case rel =>
              refine ⟨j + 1, L ++ [sg s], by omega, by go_num, ?_, ?_, ?_, hbl3⟩
              · unfold Hid; rw [HG.out, HL.out]
              · unfold Hid
                intro x hx
                rcases List.mem_append.1 hx with hx | hx
                · exact HBL.out x hx
                · rw [List.mem_singleton] at hx; omega
              · have e : (L.map natV ++ [Value.int .i64 0]).set j (natV (sg s)) = (L ++ [sg s]).map natV := by
                  rw [List.set_append, if_neg (by simp; omega), List.length_map, hnew, Nat.sub_self, List.set_cons_zero, List.map_append]; rfl
                rw [e] at hset
                rw [List.length_append, hnew]; exact hset
          · obtain ⟨x, hxj⟩ : ∃ x, L[j]? = some x := ⟨_, List.getElem?_eq_getElem (by omega)⟩
            have HG := Lib.hid (colRow_old W r j s x HS.out (by rw [HL.out]; exact hxj))
            have hxB := HBL.out x (List.mem_of_getElem? hxj)
            have cj := fun w' => join_any x s w' (by omega)
            obtain ⟨g, cap, rfl, hg1, hg2, hcap, _, _⟩ := own_some hown (by omega)
            have hcx := own_cell hown (getElem?_map_natV hxj)
            have HJ := Lib.hid (getElem?_map_natV hxj)
            clear hxj
            have hne : ((j : Int) == (L.length : Int)) = false := by simp; omega
            go_wp2_with (go_at_call 23; refine (cj _).mono ?_; rintro e w3 ⟨rfl, hb3⟩; have hown3 := own_below hown hb3; have hc3 := own_cell hown3 HJ.out; have hf3 := own_free hown3 j)
            have hset := own_set hown3 j (natV (max x (sg s)))
            have hbl3 := (hbl.trans (hb3.mono hbl.size)).setCell (p := ⟨g, j, none⟩) hg1 (natV (max x (sg s)))
            go_roundg (gk - 1)
            case measure => omega
            case rel =>
              refine ⟨j + 1, L.set j (max x (sg s)), by omega, by go_num, ?_, ?_, ?_, hbl3⟩
              · unfold Hid; rw [HG.out, HL.out]
              · unfold Hid; exact mem_set_le HBL.out (by omega)
              · rw [List.length_set, List.map_set]; exact hset
        · go_wp2
          go_roundg (gO - 1)
          case measure => omega
          case rel =>
            refine ⟨k + 1, L, by omega, by go_num, ?_, HBL, hown, hbl⟩
            unfold Hid
            obtain ⟨hkl, ek⟩ := List.getElem?_eq_some_iff.1 HK.out
            rw [List.take_succ_eq_append_getElem hkl, List.foldl_append, HW.out, ek, List.foldl_cons, List.foldl_nil, ← HL.out, List.take_of_length_le (by rw [HM.out]; omega)]
    · go_wp2
      go_ret
      have e : W = wid ls := by
        rw [← HW.out, List.take_of_length_le (by rw [HN.out]; omega)]; rfl
      subst e
      exact ⟨_, rfl, hown, hbl⟩
theorem widths_any (v : Value) (ls : List (List ByteArray)) (w : World) (B : Nat) (h : Grid w B v ls) (hB : B ≤ w.heap.size) (hl : ls.length ≤ 1048576) (hr : ∀ r ∈ ls, r.length ≤ 1048576) (hx : ∀ r ∈ ls, ∀ s ∈ r, s.size ≤ 1048576) :
    Calls Tryz.prog 7 #[v] w fun e w' => ∃ v', e = .returned v' ∧ w'.ownsRow w.heap.size 3 1 v' (wid ls).length ((wid ls).map natV) ∧ Below w.heap.size w w' := by
  have c := columns_any v ls w B h hB hl hr hx
  obtain ⟨A, cp, rfl, _, _⟩ := h.form
  clear h
  generalize (wid ls).map natV = xs at c ⊢
  generalize (wid ls).length = n at c ⊢
  generalize ls.length = m at c ⊢
  go_enter Tryz.func7, Tryz.ntmps7
  go_wp2_with (go_at_call 22; refine c.mono ?_; rintro e w1 ⟨v', rfl, ho, hb⟩)
  go_ret
  exact ⟨v', rfl, ho, hb⟩
end Go.Proofs.YtkfffoolpdilnaaGreatDoor
