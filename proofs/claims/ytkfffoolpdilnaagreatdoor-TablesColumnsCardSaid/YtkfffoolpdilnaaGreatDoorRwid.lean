/-
  Walks: Widths of the tables' reference.
-/
import Derived.Test.YtkfffoolpdilnaaGreatDoorRsigns
import Derived.Test.YtkfffoolpdilnaaGreatDoorGD
import Derived.Test.YtkfffoolpdilnaaGreatDoorChg
import Derived.Deep.RegionHeld3
import Derived.Deep.DrawnRows
namespace Go.Proofs.YtkfffoolpdilnaaGreatDoor
open Go.RowKit Go.Bd
theorem max_nat (x y : Nat) : max (x : Int) (y : Int) = ((max x y : Nat) : Int) := by omega
set_option maxRecDepth 100000 in
set_option maxHeartbeats 2000000 in
theorem refWidths_any (v : Value) (ls : List (List ByteArray)) (w : World) (B : Nat) (h : Grid w B v ls) (hB : B ≤ w.heap.size) (hl : ls.length ≤ 1048576) (hr : ∀ r ∈ ls, r.length ≤ 1048576) (hx : ∀ r ∈ ls, ∀ s ∈ r, s.size ≤ 1048576) :
    Calls Tryz.prog 10 #[v] w fun e w' => ∃ v', e = .returned v' ∧ w'.ownsRow w.heap.size 3 1 v' (wid ls).length ((wid ls).map natV) ∧ Below w.heap.size w w' := by
  obtain ⟨A, c, rfl, hc, f⟩ := h.form
  have F := Lib.hid f
  have HX := Lib.hid hx
  have HR := Lib.hid hr
  clear f hx hr h
  generalize hn : ls.length = n at hl hc ⊢
  have HN := Lib.hid hn
  clear hn
  go_enter Tryz.func10, Tryz.ntmps10
  go_wp2
  go_loopg [3, 4] n (fun r v i wr => ∃ (k : Nat) (L : List Nat), k + r = n ∧ i = .int .i64 k ∧ Hid ((ls.take k).foldl colRow [] = L) ∧ Hid (∀ x ∈ L, x ≤ 1048576) ∧ wr.ownsRow w.heap.size 3 1 v L.length (L.map natV) ∧ Below w.heap.size w wr)
  case atStart => exact ⟨0, [], by omega, rfl, by unfold Hid; simp, by unfold Hid; simp, World.ownsRow_nil _ _ _ _, Below.refl _ _⟩
  case round =>
    obtain ⟨k, W, hk, rfl, HW, HB, hown, hbl⟩ := hrel
    obtain ⟨wO, hwO⟩ : ∃ x, x = wr := ⟨_, rfl⟩
    subst hwO
    by_cases hlt : k < n
    · obtain ⟨r, hrk⟩ : ∃ r, ls[k]? = some r := ⟨_, List.getElem?_eq_getElem (by rw [HN.out]; exact hlt)⟩
      obtain ⟨b, off, rA, rc, rfl, hbB, hcr0, htx⟩ := F.out k r hrk
      have hmem := List.mem_of_getElem? hrk
      have hrl := HR.out r hmem
      have HXR := Lib.hid (HX.out r hmem)
      obtain ⟨_, _, e1, hrc, ft⟩ := htx.form
      cases e1
      have FT := Lib.hid ft
      have HK := Lib.hid hrk
      clear hrk hmem htx ft
      generalize hm : r.length = m at hrl hrc hcr0
      have HM := Lib.hid hm
      clear hm
      have HC0 := Lib.hid hcr0
      clear hcr0
      obtain ⟨gO, hgO⟩ : ∃ g, g = gk := ⟨_, rfl⟩
      subst hgO
      go_wp2
      go_loopg [3, 5] m (fun q v i wr => ∃ (j : Nat) (L : List Nat), j + q = m ∧ i = .int .i64 j ∧ Hid (colRow W (r.take j) = L) ∧ Hid (∀ x ∈ L, x ≤ 1048576) ∧ wr.ownsRow w.heap.size 3 1 v L.length (L.map natV) ∧ Below w.heap.size w wr)
      case atStart => exact ⟨0, W, by omega, rfl, by unfold Hid; rw [List.take_zero, colRow_nil], HB, hown, hbl⟩
      case round =>
        clear hown hbl
        obtain ⟨j, L, hj, rfl, HL, HBL, hown, hbl⟩ := hrel
        have hcr := (hbl.cell (p := ⟨b, off + k, none⟩) (Nat.lt_of_lt_of_le hbB hB)).trans HC0.out
        by_cases hjlt : j < m
        · obtain ⟨s, hs⟩ : ∃ s, r[j]? = some s := ⟨_, List.getElem?_eq_getElem (by rw [HM.out]; exact hjlt)⟩
          obtain ⟨b2, off2, rfl, hb2, hcs⟩ := FT.out j s hs
          have hcs0 := Lib.hid hcs
          replace hcs := (hbl.cell (p := ⟨b2, off2 + j, none⟩) (Nat.lt_of_lt_of_le hb2 hB)).trans hcs
          have hsz := HXR.out s (List.mem_of_getElem? hs)
          have hsg := sg_le s
          have hjl : j ≤ L.length := by
            have := HL.out
            rw [← this, colRow_length, List.length_take, HM.out]; omega
          have HS := Lib.hid hs
          clear hs
          by_cases hnew : L.length = j
          · have HG := Lib.hid (colRow_new W r j s HS.out (by
              have e1 := hnew
              rw [← HL.out, colRow_length] at e1
              omega))
            have cj := fun w' => refSigns_any s w' (by omega)
            rw [hnew] at hown
            obtain ⟨A2, cap, rfl, hcap⟩ := own_slice hown
            go_wp2_with (at_builtin; refine wpList_app1 _ rfl _ _ 25 rfl w.heap.size 3 (.int .i64 0) 8 Tryz.underlying25 int_info rfl _ j _ rfl (hown.alloc _) _ 1 (.int .i64 0) rfl (by simp) rfl (by unfold maxLen; omega) (by omega) (by have := hbl.size; simp; omega) ?_)
            intro v1 w1 hown1 hgr1
            obtain ⟨g, cap1, rfl, hg0, _, hcap1, _⟩ := own_some hown1 (by omega)
            have hb1 := (hbl.alloc hbl.size _).grown hgr1 (Nat.le_trans hbl.size (by simp)) (fun x hx => (hown.lt x hx).1)
            have y0 := own_cell hown1 (j := j) (u := .int .i64 0) (by rw [List.getElem?_append_right (by rw [List.length_map]; omega), List.length_map, hnew, Nat.sub_self]; rfl)
            have y1 := (hb1.cell (p := ⟨b, off + k, none⟩) (Nat.lt_of_lt_of_le hbB hB)).trans HC0.out
            have y2 := (hb1.cell (p := ⟨b2, off2 + j, none⟩) (Nat.lt_of_lt_of_le hb2 hB)).trans hcs0.out
            have f0 := own_free hown1 j
            have hne1 : g ≠ b := by omega
            have hne2 : g ≠ b2 := by omega
            have hnew2 : Hid ((w1.setCell ⟨g, j, none⟩ (.int .i64 (sg s : Int))).ownsRow w.heap.size 3 1 (.slice (some ⟨g, 0, none⟩) (j + 1) cap1) (j + 1) ((L ++ [sg s]).map natV) ∧ Below w.heap.size w (w1.setCell ⟨g, j, none⟩ (.int .i64 (sg s : Int)))) := by
              refine ⟨?_, hb1.setCell (p := ⟨g, j, none⟩) hg0 _⟩
              have h9 := own_set hown1 j (.int .i64 (sg s : Int))
              rw [List.set_append_right _ _ (by rw [List.length_map]; omega), List.length_map, hnew, Nat.sub_self] at h9
              rw [List.map_append]
              exact h9
            have hjj : (j : Int) < (j : Int) + 1 := by omega
            have hif : (if 0 < sg s then ((sg s : Nat) : Int) else 0) = ((sg s : Nat) : Int) := by split <;> omega
            have HO1 := Lib.hid (And.intro hown1 hb1)
            have HHN := Lib.hid hnew
            have z0 : w1.drew.cell? ⟨g, j, none⟩ = some (.int .i64 0) := y0
            have z1 : w1.drew.cell? ⟨b, off + k, none⟩ = some (.slice (some ⟨b2, off2, none⟩) m rc) := y1
            have z2 : w1.drew.cell? ⟨b2, off2 + j, none⟩ = some (.string s) := y2
            have g0 : w1.drew.frozen? ⟨g, j, none⟩ = false := f0
            clear hown1 hgr1 hb1 hown hbl hcr hcs hnew
            go_wp2_with fail
            refine wp_region_held_drew (S := (fun w' => w'.cell? ⟨b, off + k, none⟩ = some (.slice (some ⟨b2, off2, none⟩) m rc) ∧ w'.cell? ⟨b2, off2 + j, none⟩ = some (.string s))) (by kernel_rfl) ?_ (fun hHeld0 => ?_)
            · (try dsimp only)
              first | exact ⟨z1, z2⟩ | exact ⟨cell_far hne1 _ y1, cell_far hne2 _ y2⟩
            refine wpAnyH_take (i := 0) (oi := ⟨some 28, _, _, _, _, _⟩) (v := ?_) rfl (by kernel_rfl) (by kernel_rfl) (by kernel_rfl) (fun _ _ _ h => h) (Or.inl ⟨by kernel_rfl, ?_⟩) (by assumption) ?_
            rotate_left
            · (intro w hSw; (try dsimp only at hSw); go_simp; (first | done | with_reducible rfl))
            (try simp only [Act.put, List.setIfInBounds_toArray, List.set_cons_zero, List.set_cons_succ])
            refine wpAnyH_take (i := 1) (oi := ⟨some 29, _, _, _, _, _⟩) (v := ?_) rfl (by kernel_rfl) (by kernel_rfl) (by kernel_rfl) (fun _ _ _ h => h) (Or.inl ⟨by kernel_rfl, ?_⟩) (by assumption) ?_
            rotate_left
            · (intro w hSw; (try dsimp only at hSw); go_simp; (first | done | with_reducible rfl))
            (try simp only [Act.put, List.setIfInBounds_toArray, List.set_cons_zero, List.set_cons_succ])
            refine wpAnyH_take (i := 2) (oi := ⟨some 30, _, _, _, _, _⟩) (v := ?_) rfl (by kernel_rfl) (by kernel_rfl) (by kernel_rfl) (fun _ _ _ h => h) (Or.inl ⟨by kernel_rfl, ?_⟩) (by assumption) ?_
            rotate_left
            · (intro w hSw; (try dsimp only at hSw); go_simp; (first | done | with_reducible rfl))
            (try simp only [Act.put, List.setIfInBounds_toArray, List.set_cons_zero, List.set_cons_succ])
            refine wpAnyH_take (i := 3) (oi := ⟨some 31, _, _, _, _, _⟩) (v := ?_) rfl (by kernel_rfl) (by kernel_rfl) (by kernel_rfl) (fun _ _ _ h => h) (Or.inl ⟨by kernel_rfl, ?_⟩) (by assumption) ?_
            rotate_left
            · (intro w hSw; (try dsimp only at hSw); go_simp; (first | done | with_reducible rfl))
            (try simp only [Act.put, List.setIfInBounds_toArray, List.set_cons_zero, List.set_cons_succ])
            refine wpAnyH_take (i := 4) (oi := ⟨some 32, _, _, _, _, _⟩) (v := ?_) rfl (by kernel_rfl) (by kernel_rfl) (by kernel_rfl) (fun _ _ _ h => h) (Or.inl ⟨by kernel_rfl, ?_⟩) (by assumption) ?_
            rotate_left
            · (intro w hSw; (try dsimp only at hSw); go_simp; (first | done | with_reducible rfl))
            (try simp only [Act.put, List.setIfInBounds_toArray, List.set_cons_zero, List.set_cons_succ])
            refine wpAnyH_take (i := 6) (oi := ⟨some 34, _, _, _, _, _⟩) (v := ?_) rfl (by kernel_rfl) (by kernel_rfl) (by kernel_rfl) (fun _ _ _ h => h) (Or.inl ⟨by kernel_rfl, ?_⟩) (by assumption) ?_
            rotate_left
            · (intro w hSw; (try dsimp only at hSw); go_simp; (first | done | with_reducible rfl))
            (try simp only [Act.put, List.setIfInBounds_toArray, List.set_cons_zero, List.set_cons_succ])
            refine wpAnyH_take (i := 7) (oi := ⟨some 35, _, _, _, _, _⟩) (v := ?_) rfl (by kernel_rfl) (by kernel_rfl) (by kernel_rfl) (fun _ _ _ h => h) (Or.inl ⟨by kernel_rfl, ?_⟩) (by assumption) ?_
            rotate_left
            · (intro w hSw; (try dsimp only at hSw); go_simp; (first | done | with_reducible rfl))
            (try simp only [Act.put, List.setIfInBounds_toArray, List.set_cons_zero, List.set_cons_succ])
            refine wpAnyH_take (i := 8) (oi := ⟨some 36, _, _, _, _, _⟩) (v := ?_) rfl (by kernel_rfl) (by kernel_rfl) (by kernel_rfl) (fun _ _ _ h => h) (Or.inl ⟨by kernel_rfl, ?_⟩) (by assumption) ?_
            rotate_left
            · (intro w hSw; (try dsimp only at hSw); go_simp; (first | done | with_reducible rfl))
            (try simp only [Act.put, List.setIfInBounds_toArray, List.set_cons_zero, List.set_cons_succ])
            refine wpAnyH_take (i := 9) (oi := ⟨some 37, _, _, _, _, _⟩) (v := ?_) rfl (by kernel_rfl) (by kernel_rfl) (by kernel_rfl) (fun _ _ _ h => h) (Or.inl ⟨by kernel_rfl, ?_⟩) (by assumption) ?_
            rotate_left
            · (intro w hSw; (try dsimp only at hSw); go_simp; (first | done | with_reducible rfl))
            (try simp only [Act.put, List.setIfInBounds_toArray, List.set_cons_zero, List.set_cons_succ])
            refine wpAnyH_take (i := 10) (oi := ⟨some 38, _, _, _, _, _⟩) (v := ?_) rfl (by kernel_rfl) (by kernel_rfl) (by kernel_rfl) (fun _ _ _ h => h) (Or.inl ⟨by kernel_rfl, ?_⟩) (by assumption) ?_
            rotate_left
            · (intro w hSw; (try dsimp only at hSw); go_simp; (first | done | with_reducible rfl))
            (try simp only [Act.put, List.setIfInBounds_toArray, List.set_cons_zero, List.set_cons_succ])
            refine wpAnyH_take (i := 11) (oi := ⟨some 39, _, _, _, _, _⟩) (v := ?_) rfl (by kernel_rfl) (by kernel_rfl) (by kernel_rfl) (fun _ _ _ h => h) (Or.inl ⟨by kernel_rfl, ?_⟩) (by assumption) ?_
            rotate_left
            · (intro w hSw; (try dsimp only at hSw); go_simp; (first | done | with_reducible rfl))
            (try simp only [Act.put, List.setIfInBounds_toArray, List.set_cons_zero, List.set_cons_succ])
            refine wpAnyH_take (i := 12) (oi := ⟨some 40, _, _, _, _, _⟩) (v := ?_) rfl (by kernel_rfl) (by kernel_rfl) (by kernel_rfl) (fun _ _ _ h => h) (Or.inl ⟨by kernel_rfl, ?_⟩) (by assumption) ?_
            rotate_left
            · (intro w hSw; (try dsimp only at hSw); go_simp; (first | done | with_reducible rfl))
            (try simp only [Act.put, List.setIfInBounds_toArray, List.set_cons_zero, List.set_cons_succ])
            refine wpAnyH_ready (rs := [5, 13]) (by kernel_rfl) (by simp) ?_
            refine AllReadyH.cons (o := ⟨some 33, _, _, _, _, _⟩) rfl (fun K hK => ?_) ?_
            · skip
              go_simp
              refine hK.out _ _ ?_ (fun hHeld1 => ?_)
              · (try dsimp only)
                first | exact ⟨z1, z2⟩ | exact ⟨cell_far hne1 _ y1, cell_far hne2 _ y2⟩
              clear hK K hHeld0
              (try simp only [Act.put, List.setIfInBounds_toArray, List.set_cons_zero, List.set_cons_succ])
              refine wpAnyH_ready (rs := [13]) (by kernel_rfl) (by simp) ?_
              refine AllReadyH.cons (o := ⟨some 41, _, _, _, _, _⟩) rfl (fun K hK => ?_) AllReadyH.nil
              go_simp
              refine (cj _).mono ?_
              rintro e' w3 ⟨rfl, rfl⟩
              go_wp2_with fail
              refine hK.out _ _ ?_ (fun hHeld2 => ?_)
              · (try dsimp only)
                first | exact ⟨z1, z2⟩ | exact ⟨cell_far hne1 _ y1, cell_far hne2 _ y2⟩
              clear hK K hHeld1
              (try simp only [Act.put, List.setIfInBounds_toArray, List.set_cons_zero, List.set_cons_succ])
              refine wpAnyH_ready (rs := [14]) (by kernel_rfl) (by simp) ?_
              refine AllReadyH.cons (o := ⟨some 42, _, _, _, _, _⟩) rfl (fun K hK => ?_) AllReadyH.nil
              go_simp
              refine hK.out _ _ ?_ (fun hHeld3 => ?_)
              · (try dsimp only)
                first | exact ⟨z1, z2⟩ | exact ⟨cell_far hne1 _ y1, cell_far hne2 _ y2⟩
              clear hK K hHeld2
              (try simp only [Act.put, List.setIfInBounds_toArray, List.set_cons_zero, List.set_cons_succ])
              refine wpAnyH_take (i := 15) (oi := ⟨some 43, _, _, _, _, _⟩) (v := ?_) rfl (by kernel_rfl) (by kernel_rfl) (by kernel_rfl) (fun _ _ _ h => h) (Or.inl ⟨by kernel_rfl, ?_⟩) (by assumption) ?_
              rotate_left
              · (intro w hSw; (try dsimp only at hSw); go_simp; (first | done | with_reducible rfl))
              (try simp only [Act.put, List.setIfInBounds_toArray, List.set_cons_zero, List.set_cons_succ])
              refine wpAnyH_ready (rs := [16]) (by kernel_rfl) (by simp) ?_
              refine AllReadyH.cons rfl (fun K hK => ?_) AllReadyH.nil
              go_simp
              refine hK.out _ _ ?_ (fun hHeld4 => ?_)
              · (try dsimp only)
                first | exact ⟨z1, z2⟩ | exact ⟨cell_far hne1 _ y1, cell_far hne2 _ y2⟩
              clear hK K hHeld3
              (try simp only [Act.put, List.setIfInBounds_toArray, List.set_cons_zero, List.set_cons_succ])
              refine wpAnyH_done (by kernel_rfl) ?_ _
              go_wp2
              go_roundg (gk - 1)
              case measure => omega
              case rel =>
                refine ⟨j + 1, L ++ [sg s], by omega, by go_num, ?_, ?_, ?_, hnew2.out.2.drew⟩
                · unfold Hid
                  rw [HG.out, HL.out]
                · intro x hx
                  rcases List.mem_append.1 hx with h | h
                  · exact HBL.out x h
                  · rw [List.mem_singleton] at h; omega
                · rw [List.length_append, HHN.out]
                  exact hnew2.out.1
            refine AllReadyH.cons (o := ⟨some 41, _, _, _, _, _⟩) rfl (fun K hK => ?_) AllReadyH.nil
            go_simp
            refine (cj _).mono ?_
            rintro e' w3 ⟨rfl, rfl⟩
            go_wp2_with fail
            refine hK.out _ _ ?_ (fun hHeld1 => ?_)
            · (try dsimp only)
              first | exact ⟨z1, z2⟩ | exact ⟨cell_far hne1 _ y1, cell_far hne2 _ y2⟩
            clear hK K hHeld0
            (try simp only [Act.put, List.setIfInBounds_toArray, List.set_cons_zero, List.set_cons_succ])
            refine wpAnyH_ready (rs := [5]) (by kernel_rfl) (by simp) ?_
            refine AllReadyH.cons (o := ⟨some 33, _, _, _, _, _⟩) rfl (fun K hK => ?_) AllReadyH.nil
            go_simp
            refine hK.out _ _ ?_ (fun hHeld2 => ?_)
            · (try dsimp only)
              first | exact ⟨z1, z2⟩ | exact ⟨cell_far hne1 _ y1, cell_far hne2 _ y2⟩
            clear hK K hHeld1
            (try simp only [Act.put, List.setIfInBounds_toArray, List.set_cons_zero, List.set_cons_succ])
            refine wpAnyH_ready (rs := [14]) (by kernel_rfl) (by simp) ?_
            refine AllReadyH.cons (o := ⟨some 42, _, _, _, _, _⟩) rfl (fun K hK => ?_) AllReadyH.nil
            go_simp
            refine hK.out _ _ ?_ (fun hHeld3 => ?_)
            · (try dsimp only)
              first | exact ⟨z1, z2⟩ | exact ⟨cell_far hne1 _ y1, cell_far hne2 _ y2⟩
            clear hK K hHeld2
            (try simp only [Act.put, List.setIfInBounds_toArray, List.set_cons_zero, List.set_cons_succ])
            refine wpAnyH_take (i := 15) (oi := ⟨some 43, _, _, _, _, _⟩) (v := ?_) rfl (by kernel_rfl) (by kernel_rfl) (by kernel_rfl) (fun _ _ _ h => h) (Or.inl ⟨by kernel_rfl, ?_⟩) (by assumption) ?_
            rotate_left
            · (intro w hSw; (try dsimp only at hSw); go_simp; (first | done | with_reducible rfl))
            (try simp only [Act.put, List.setIfInBounds_toArray, List.set_cons_zero, List.set_cons_succ])
            refine wpAnyH_ready (rs := [16]) (by kernel_rfl) (by simp) ?_
            refine AllReadyH.cons rfl (fun K hK => ?_) AllReadyH.nil
            go_simp
            refine hK.out _ _ ?_ (fun hHeld4 => ?_)
            · (try dsimp only)
              first | exact ⟨z1, z2⟩ | exact ⟨cell_far hne1 _ y1, cell_far hne2 _ y2⟩
            clear hK K hHeld3
            (try simp only [Act.put, List.setIfInBounds_toArray, List.set_cons_zero, List.set_cons_succ])
            refine wpAnyH_done (by kernel_rfl) ?_ _
            go_wp2
            go_roundg (gk - 1)
            case measure => omega
            case rel =>
              refine ⟨j + 1, L ++ [sg s], by omega, by go_num, ?_, ?_, ?_, hnew2.out.2.drew⟩
              · unfold Hid
                rw [HG.out, HL.out]
              · intro x hx
                rcases List.mem_append.1 hx with h | h
                · exact HBL.out x h
                · rw [List.mem_singleton] at h; omega
              · rw [List.length_append, HHN.out]
                exact hnew2.out.1
          · obtain ⟨x, hxj⟩ : ∃ x, L[j]? = some x := ⟨_, List.getElem?_eq_getElem (by omega)⟩
            have HG := Lib.hid (colRow_old W r j s x HS.out (by rw [HL.out]; exact hxj))
            have hxb := HBL.out x (List.mem_of_getElem? hxj)
            have cj := fun w' => refSigns_any s w' (by omega)
            obtain ⟨g, cap1, hv, hg0, _, hcap1, _⟩ := own_some hown (by omega)
            subst hv
            have y0 := own_cell hown (getElem?_map_natV hxj)
            have f0 := own_free hown j
            have hne1 : g ≠ b := by omega
            have hne2 : g ≠ b2 := by omega
            have hif : (if x < sg s then ((sg s : Nat) : Int) else (x : Int)) = ((max x (sg s) : Nat) : Int) := by split <;> omega
            have hnew2 : Hid ((wr.setCell ⟨g, j, none⟩ (.int .i64 ((max x (sg s) : Nat) : Int))).ownsRow w.heap.size 3 1 (.slice (some ⟨g, 0, none⟩) L.length cap1) L.length ((L.set j (max x (sg s))).map natV) ∧ Below w.heap.size w (wr.setCell ⟨g, j, none⟩ (.int .i64 ((max x (sg s) : Nat) : Int)))) := by
              refine ⟨?_, hbl.setCell (p := ⟨g, j, none⟩) hg0 _⟩
              rw [List.map_set]
              exact own_set hown j (.int .i64 ((max x (sg s) : Nat) : Int))
            have hmb : max x (sg s) ≤ 1048576 := by omega
            generalize max x (sg s) = M at hif hnew2 HG hmb
            have y1 := hcr
            have y2 := hcs
            have z0 : wr.drew.cell? ⟨g, j, none⟩ = some (.int .i64 (x : Int)) := y0
            have z1 : wr.drew.cell? ⟨b, off + k, none⟩ = some (.slice (some ⟨b2, off2, none⟩) m rc) := hcr
            have z2 : wr.drew.cell? ⟨b2, off2 + j, none⟩ = some (.string s) := hcs
            have g0 : wr.drew.frozen? ⟨g, j, none⟩ = false := f0
            have hjn : j < L.length := by omega
            have hjc : j ≤ cap1 := by omega
            obtain ⟨N, hN⟩ : ∃ N, L.length = N := ⟨_, rfl⟩
            have HNN := Lib.hid hN
            rw [hN] at hnew hnew2 hjn hjl ⊢
            clear hown hbl hcap1 hN
            go_wp2_with fail
            refine wp_region_held_drew (S := (fun w' => w'.cell? ⟨b, off + k, none⟩ = some (.slice (some ⟨b2, off2, none⟩) m rc) ∧ w'.cell? ⟨b2, off2 + j, none⟩ = some (.string s))) (by kernel_rfl) ?_ (fun hHeld0 => ?_)
            · (try dsimp only)
              first | exact ⟨z1, z2⟩ | exact ⟨cell_far hne1 _ y1, cell_far hne2 _ y2⟩
            refine wpAnyH_take (i := 0) (oi := ⟨some 28, _, _, _, _, _⟩) (v := ?_) rfl (by kernel_rfl) (by kernel_rfl) (by kernel_rfl) (fun _ _ _ h => h) (Or.inl ⟨by kernel_rfl, ?_⟩) (by assumption) ?_
            rotate_left
            · (intro w hSw; (try dsimp only at hSw); go_simp; (first | done | with_reducible rfl))
            (try simp only [Act.put, List.setIfInBounds_toArray, List.set_cons_zero, List.set_cons_succ])
            refine wpAnyH_take (i := 1) (oi := ⟨some 29, _, _, _, _, _⟩) (v := ?_) rfl (by kernel_rfl) (by kernel_rfl) (by kernel_rfl) (fun _ _ _ h => h) (Or.inl ⟨by kernel_rfl, ?_⟩) (by assumption) ?_
            rotate_left
            · (intro w hSw; (try dsimp only at hSw); go_simp; (first | done | with_reducible rfl))
            (try simp only [Act.put, List.setIfInBounds_toArray, List.set_cons_zero, List.set_cons_succ])
            refine wpAnyH_take (i := 2) (oi := ⟨some 30, _, _, _, _, _⟩) (v := ?_) rfl (by kernel_rfl) (by kernel_rfl) (by kernel_rfl) (fun _ _ _ h => h) (Or.inl ⟨by kernel_rfl, ?_⟩) (by assumption) ?_
            rotate_left
            · (intro w hSw; (try dsimp only at hSw); go_simp; (first | done | with_reducible rfl))
            (try simp only [Act.put, List.setIfInBounds_toArray, List.set_cons_zero, List.set_cons_succ])
            refine wpAnyH_take (i := 3) (oi := ⟨some 31, _, _, _, _, _⟩) (v := ?_) rfl (by kernel_rfl) (by kernel_rfl) (by kernel_rfl) (fun _ _ _ h => h) (Or.inl ⟨by kernel_rfl, ?_⟩) (by assumption) ?_
            rotate_left
            · (intro w hSw; (try dsimp only at hSw); go_simp; (first | done | with_reducible rfl))
            (try simp only [Act.put, List.setIfInBounds_toArray, List.set_cons_zero, List.set_cons_succ])
            refine wpAnyH_take (i := 4) (oi := ⟨some 32, _, _, _, _, _⟩) (v := ?_) rfl (by kernel_rfl) (by kernel_rfl) (by kernel_rfl) (fun _ _ _ h => h) (Or.inl ⟨by kernel_rfl, ?_⟩) (by assumption) ?_
            rotate_left
            · (intro w hSw; (try dsimp only at hSw); go_simp; (first | done | with_reducible rfl))
            (try simp only [Act.put, List.setIfInBounds_toArray, List.set_cons_zero, List.set_cons_succ])
            refine wpAnyH_take (i := 6) (oi := ⟨some 34, _, _, _, _, _⟩) (v := ?_) rfl (by kernel_rfl) (by kernel_rfl) (by kernel_rfl) (fun _ _ _ h => h) (Or.inl ⟨by kernel_rfl, ?_⟩) (by assumption) ?_
            rotate_left
            · (intro w hSw; (try dsimp only at hSw); go_simp; (first | done | with_reducible rfl))
            (try simp only [Act.put, List.setIfInBounds_toArray, List.set_cons_zero, List.set_cons_succ])
            refine wpAnyH_take (i := 7) (oi := ⟨some 35, _, _, _, _, _⟩) (v := ?_) rfl (by kernel_rfl) (by kernel_rfl) (by kernel_rfl) (fun _ _ _ h => h) (Or.inl ⟨by kernel_rfl, ?_⟩) (by assumption) ?_
            rotate_left
            · (intro w hSw; (try dsimp only at hSw); go_simp; (first | done | with_reducible rfl))
            (try simp only [Act.put, List.setIfInBounds_toArray, List.set_cons_zero, List.set_cons_succ])
            refine wpAnyH_take (i := 8) (oi := ⟨some 36, _, _, _, _, _⟩) (v := ?_) rfl (by kernel_rfl) (by kernel_rfl) (by kernel_rfl) (fun _ _ _ h => h) (Or.inl ⟨by kernel_rfl, ?_⟩) (by assumption) ?_
            rotate_left
            · (intro w hSw; (try dsimp only at hSw); go_simp; (first | done | with_reducible rfl))
            (try simp only [Act.put, List.setIfInBounds_toArray, List.set_cons_zero, List.set_cons_succ])
            refine wpAnyH_take (i := 9) (oi := ⟨some 37, _, _, _, _, _⟩) (v := ?_) rfl (by kernel_rfl) (by kernel_rfl) (by kernel_rfl) (fun _ _ _ h => h) (Or.inl ⟨by kernel_rfl, ?_⟩) (by assumption) ?_
            rotate_left
            · (intro w hSw; (try dsimp only at hSw); go_simp; (first | done | with_reducible rfl))
            (try simp only [Act.put, List.setIfInBounds_toArray, List.set_cons_zero, List.set_cons_succ])
            refine wpAnyH_take (i := 10) (oi := ⟨some 38, _, _, _, _, _⟩) (v := ?_) rfl (by kernel_rfl) (by kernel_rfl) (by kernel_rfl) (fun _ _ _ h => h) (Or.inl ⟨by kernel_rfl, ?_⟩) (by assumption) ?_
            rotate_left
            · (intro w hSw; (try dsimp only at hSw); go_simp; (first | done | with_reducible rfl))
            (try simp only [Act.put, List.setIfInBounds_toArray, List.set_cons_zero, List.set_cons_succ])
            refine wpAnyH_take (i := 11) (oi := ⟨some 39, _, _, _, _, _⟩) (v := ?_) rfl (by kernel_rfl) (by kernel_rfl) (by kernel_rfl) (fun _ _ _ h => h) (Or.inl ⟨by kernel_rfl, ?_⟩) (by assumption) ?_
            rotate_left
            · (intro w hSw; (try dsimp only at hSw); go_simp; (first | done | with_reducible rfl))
            (try simp only [Act.put, List.setIfInBounds_toArray, List.set_cons_zero, List.set_cons_succ])
            refine wpAnyH_take (i := 12) (oi := ⟨some 40, _, _, _, _, _⟩) (v := ?_) rfl (by kernel_rfl) (by kernel_rfl) (by kernel_rfl) (fun _ _ _ h => h) (Or.inl ⟨by kernel_rfl, ?_⟩) (by assumption) ?_
            rotate_left
            · (intro w hSw; (try dsimp only at hSw); go_simp; (first | done | with_reducible rfl))
            (try simp only [Act.put, List.setIfInBounds_toArray, List.set_cons_zero, List.set_cons_succ])
            refine wpAnyH_ready (rs := [5, 13]) (by kernel_rfl) (by simp) ?_
            refine AllReadyH.cons (o := ⟨some 33, _, _, _, _, _⟩) rfl (fun K hK => ?_) ?_
            · skip
              go_simp
              refine hK.out _ _ ?_ (fun hHeld1 => ?_)
              · (try dsimp only)
                first | exact ⟨z1, z2⟩ | exact ⟨cell_far hne1 _ y1, cell_far hne2 _ y2⟩
              clear hK K hHeld0
              (try simp only [Act.put, List.setIfInBounds_toArray, List.set_cons_zero, List.set_cons_succ])
              refine wpAnyH_ready (rs := [13]) (by kernel_rfl) (by simp) ?_
              refine AllReadyH.cons (o := ⟨some 41, _, _, _, _, _⟩) rfl (fun K hK => ?_) AllReadyH.nil
              go_simp
              refine (cj _).mono ?_
              rintro e' w3 ⟨rfl, rfl⟩
              go_wp2_with fail
              refine hK.out _ _ ?_ (fun hHeld2 => ?_)
              · (try dsimp only)
                first | exact ⟨z1, z2⟩ | exact ⟨cell_far hne1 _ y1, cell_far hne2 _ y2⟩
              clear hK K hHeld1
              (try simp only [Act.put, List.setIfInBounds_toArray, List.set_cons_zero, List.set_cons_succ])
              refine wpAnyH_ready (rs := [14]) (by kernel_rfl) (by simp) ?_
              refine AllReadyH.cons (o := ⟨some 42, _, _, _, _, _⟩) rfl (fun K hK => ?_) AllReadyH.nil
              go_simp
              refine hK.out _ _ ?_ (fun hHeld3 => ?_)
              · (try dsimp only)
                first | exact ⟨z1, z2⟩ | exact ⟨cell_far hne1 _ y1, cell_far hne2 _ y2⟩
              clear hK K hHeld2
              (try simp only [Act.put, List.setIfInBounds_toArray, List.set_cons_zero, List.set_cons_succ])
              refine wpAnyH_take (i := 15) (oi := ⟨some 43, _, _, _, _, _⟩) (v := ?_) rfl (by kernel_rfl) (by kernel_rfl) (by kernel_rfl) (fun _ _ _ h => h) (Or.inl ⟨by kernel_rfl, ?_⟩) (by assumption) ?_
              rotate_left
              · (intro w hSw; (try dsimp only at hSw); go_simp; (first | done | with_reducible rfl))
              (try simp only [Act.put, List.setIfInBounds_toArray, List.set_cons_zero, List.set_cons_succ])
              refine wpAnyH_ready (rs := [16]) (by kernel_rfl) (by simp) ?_
              refine AllReadyH.cons rfl (fun K hK => ?_) AllReadyH.nil
              go_simp
              refine hK.out _ _ ?_ (fun hHeld4 => ?_)
              · (try dsimp only)
                first | exact ⟨z1, z2⟩ | exact ⟨cell_far hne1 _ y1, cell_far hne2 _ y2⟩
              clear hK K hHeld3
              (try simp only [Act.put, List.setIfInBounds_toArray, List.set_cons_zero, List.set_cons_succ])
              refine wpAnyH_done (by kernel_rfl) ?_ _
              go_wp2
              go_roundg (gk - 1)
              case measure => omega
              case rel =>
                refine ⟨j + 1, L.set j M, by omega, by go_num, ?_, ?_, ?_, hnew2.out.2.drew⟩
                · unfold Hid
                  rw [HG.out, HL.out]
                · exact mem_set_le HBL.out hmb
                · rw [List.length_set, HNN.out]
                  exact hnew2.out.1
            refine AllReadyH.cons (o := ⟨some 41, _, _, _, _, _⟩) rfl (fun K hK => ?_) AllReadyH.nil
            go_simp
            refine (cj _).mono ?_
            rintro e' w3 ⟨rfl, rfl⟩
            go_wp2_with fail
            refine hK.out _ _ ?_ (fun hHeld1 => ?_)
            · (try dsimp only)
              first | exact ⟨z1, z2⟩ | exact ⟨cell_far hne1 _ y1, cell_far hne2 _ y2⟩
            clear hK K hHeld0
            (try simp only [Act.put, List.setIfInBounds_toArray, List.set_cons_zero, List.set_cons_succ])
            refine wpAnyH_ready (rs := [5]) (by kernel_rfl) (by simp) ?_
            refine AllReadyH.cons (o := ⟨some 33, _, _, _, _, _⟩) rfl (fun K hK => ?_) AllReadyH.nil
            go_simp
            refine hK.out _ _ ?_ (fun hHeld2 => ?_)
            · (try dsimp only)
              first | exact ⟨z1, z2⟩ | exact ⟨cell_far hne1 _ y1, cell_far hne2 _ y2⟩
            clear hK K hHeld1
            (try simp only [Act.put, List.setIfInBounds_toArray, List.set_cons_zero, List.set_cons_succ])
            refine wpAnyH_ready (rs := [14]) (by kernel_rfl) (by simp) ?_
            refine AllReadyH.cons (o := ⟨some 42, _, _, _, _, _⟩) rfl (fun K hK => ?_) AllReadyH.nil
            go_simp
            refine hK.out _ _ ?_ (fun hHeld3 => ?_)
            · (try dsimp only)
              first | exact ⟨z1, z2⟩ | exact ⟨cell_far hne1 _ y1, cell_far hne2 _ y2⟩
            clear hK K hHeld2
            (try simp only [Act.put, List.setIfInBounds_toArray, List.set_cons_zero, List.set_cons_succ])
            refine wpAnyH_take (i := 15) (oi := ⟨some 43, _, _, _, _, _⟩) (v := ?_) rfl (by kernel_rfl) (by kernel_rfl) (by kernel_rfl) (fun _ _ _ h => h) (Or.inl ⟨by kernel_rfl, ?_⟩) (by assumption) ?_
            rotate_left
            · (intro w hSw; (try dsimp only at hSw); go_simp; (first | done | with_reducible rfl))
            (try simp only [Act.put, List.setIfInBounds_toArray, List.set_cons_zero, List.set_cons_succ])
            refine wpAnyH_ready (rs := [16]) (by kernel_rfl) (by simp) ?_
            refine AllReadyH.cons rfl (fun K hK => ?_) AllReadyH.nil
            go_simp
            refine hK.out _ _ ?_ (fun hHeld4 => ?_)
            · (try dsimp only)
              first | exact ⟨z1, z2⟩ | exact ⟨cell_far hne1 _ y1, cell_far hne2 _ y2⟩
            clear hK K hHeld3
            (try simp only [Act.put, List.setIfInBounds_toArray, List.set_cons_zero, List.set_cons_succ])
            refine wpAnyH_done (by kernel_rfl) ?_ _
            go_wp2
            go_roundg (gk - 1)
            case measure => omega
            case rel =>
              refine ⟨j + 1, L.set j M, by omega, by go_num, ?_, ?_, ?_, hnew2.out.2.drew⟩
              · unfold Hid
                rw [HG.out, HL.out]
              · exact mem_set_le HBL.out hmb
              · rw [List.length_set, HNN.out]
                exact hnew2.out.1
        · obtain rfl : j = m := by omega
          have hfin : colRow W r = L := by
            have := HL.out
            rw [List.take_of_length_le (by rw [HM.out]; exact Nat.le_refl _)] at this
            exact this
          have HF := Lib.hid hfin
          clear hfin
          go_wp2
          go_roundg (gO - 1)
          case measure => omega
          case rel =>
            refine ⟨k + 1, L, by omega, by go_num, ?_, HBL, hown, hbl⟩
            unfold Hid
            rw [List.take_add_one, HK.out, List.foldl_append, HW.out]
            exact HF.out
    · obtain rfl : k = n := by omega
      go_wp2
      go_ret
      refine ⟨_, rfl, ?_, hbl⟩
      have e1 : wid ls = W := by
        have := HW.out
        rw [List.take_of_length_le (by rw [HN.out]; exact Nat.le_refl _)] at this
        exact this
      rw [e1]
      exact hown
end Go.Proofs.YtkfffoolpdilnaaGreatDoor
