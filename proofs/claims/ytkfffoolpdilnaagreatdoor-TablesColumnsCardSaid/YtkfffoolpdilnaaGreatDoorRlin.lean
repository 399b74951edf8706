/-
  Walks: Lines of the tables' reference.
-/
import Derived.Test.YtkfffoolpdilnaaGreatDoorRwid
import Derived.Test.YtkfffoolpdilnaaGreatDoorGF
namespace Go.Proofs.YtkfffoolpdilnaaGreatDoor
open Go.RowKit Go.Bd
theorem ba_app (s t : ByteArray) : (s ++ t).data.toList = s.data.toList ++ t.data.toList := by simp
set_option maxRecDepth 100000 in
set_option maxHeartbeats 4000000 in
theorem refLines_any (v : Value) (ls : List (List ByteArray)) (w : World) (B : Nat) (h : Grid w B v ls) (hB : B ≤ w.heap.size) (hl : ls.length ≤ 6000) (hr : ∀ r ∈ ls, r.length ≤ 6000) (hx : ∀ r ∈ ls, ∀ s ∈ r, s.size ≤ 6000) :
    Calls Tryz.prog 12 #[v] w fun e w' => ∃ v', e = .returned v' ∧ w'.ownsRow w.heap.size 9 1 v' (linesOf ls).length ((linesOf ls).map Value.string) ∧ Below w.heap.size w w' := by
  have cw := refWidths_any v ls w B h hB (by omega) (fun r hr' => by have := hr r hr'; omega) (fun r hr' s hs => by have := hx r hr' s hs; omega)
  have hwb := wid_bound hx
  obtain ⟨A, c, rfl, hc, f⟩ := h.form
  have F := Lib.hid f
  have HX := Lib.hid hx
  have HR := Lib.hid hr
  have HWR := Lib.hid (fun (r : List ByteArray) (hr : r ∈ ls) (k : Nat) (s : ByteArray) (hs : r[k]? = some s) => wid_row hr hs)
  have HLO : Hid (linesOf ls = ls.map fun r => (⟨(lineOf (wid ls) r).toArray⟩ : ByteArray)) := rfl
  clear f hx hr h
  generalize hn : ls.length = n at hl hc cw ⊢
  have HN := Lib.hid hn
  clear hn
  obtain ⟨W, hW⟩ : ∃ W, wid ls = W := ⟨_, rfl⟩
  rw [hW] at cw hwb HWR HLO
  have HWB := Lib.hid hwb
  clear hW hwb
  go_enter Tryz.func12, Tryz.ntmps12
  go_wp2_with fail
  refine cw.mono ?_
  clear cw
  rintro e w1 ⟨wv, rfl, how, hb1⟩
  obtain ⟨WA, wc, rfl, _⟩ := own_slice how
  have H1 := Lib.hid (And.intro how hb1)
  have s01 := hb1.size
  clear how hb1
  go_wp2
  go_loopg [4, 5] n (fun q vo vi wr => ∃ (i : Nat) (OA : Option Addr) (oc : Nat), i + q = n ∧ vi = .int .i64 (i : Int) ∧ vo = .slice OA i oc ∧ Hid (wr.ownsRow w1.heap.size 9 1 (.slice OA i oc) i (((linesOf ls).map Value.string).take i) ∧ Below w1.heap.size w1 wr))
  case atStart => exact ⟨0, none, 0, by omega, rfl, rfl, World.ownsRow_nil _ _ _ _, Below.refl _ _⟩
  case round =>
    obtain ⟨i, OA, oc, hi, rfl, rfl, HO⟩ := hrel
    obtain ⟨gO, hgO⟩ : ∃ g, g = gk := ⟨_, rfl⟩
    subst hgO
    by_cases hlt : i < n
    · obtain ⟨r, hri⟩ : ∃ r, ls[i]? = some r := ⟨_, List.getElem?_eq_getElem (by rw [HN.out]; exact hlt)⟩
      obtain ⟨b, off, rA, rc, rfl, hbB, hcr0, htx⟩ := F.out i r hri
      have hmem := List.mem_of_getElem? hri
      have hrl := HR.out r hmem
      have HXR := Lib.hid (HX.out r hmem)
      have HWK := Lib.hid (HWR.out r hmem)
      have HLI : Hid (((linesOf ls).map Value.string)[i]? = some (.string ⟨(lineOf W r).toArray⟩)) := by
        unfold Hid
        rw [HLO.out, List.getElem?_map, List.getElem?_map, hri]
        rfl
      obtain ⟨_, _, e1, hrc, ft⟩ := htx.form
      cases e1
      have FT := Lib.hid ft
      have hcr1 := (H1.out.2.cell (p := ⟨b, off + i, none⟩) (Nat.lt_of_lt_of_le hbB hB)).trans hcr0
      have hcr := (HO.out.2.cell (p := ⟨b, off + i, none⟩) (Nat.lt_of_lt_of_le hbB (Nat.le_trans hB s01))).trans hcr1
      clear hri hmem htx ft hcr0 hcr1
      have hlast : Hid (∀ acc : ByteArray, acc.data.toList ++ lineGo W r.length (r.drop r.length) = lineOf W r → acc = ⟨(lineOf W r).toArray⟩) := fun acc ha => by
        rw [List.drop_length] at ha
        rw [← ha]
        simp [lineGo]
      have HST : Hid (∀ (k : Nat) (s : ByteArray), r[k]? = some s → ∀ acc : Bs, acc ++ lineGo W k (r.drop k) = (acc ++ cellOf W r.length k s) ++ lineGo W (k + 1) (r.drop (k + 1))) := fun k s hs acc => lineGo_take W r k s hs acc
      generalize hm : r.length = m at hrl hrc hcr hlast HST
      have HM := Lib.hid hm
      clear hm
      go_wp2
      go_loopg [6, 7] m (fun q va vk wi => ∃ (k : Nat) (acc : ByteArray), k + q = m ∧ vk = .int .i64 (k : Int) ∧ va = .string acc ∧ acc.size ≤ 12003 * k ∧ Hid (acc.data.toList ++ lineGo W k (r.drop k) = lineOf W r) ∧ wi = wr)
      case atStart => exact ⟨0, ⟨#[]⟩, by omega, rfl, rfl, by simp; rfl, by unfold Hid; simp [lineOf], rfl⟩
      case round =>
        obtain ⟨k, acc, hk, rfl, rfl, hac, HA, rfl⟩ := hrel
        obtain ⟨gK, hgK⟩ : ∃ g, g = gk := ⟨_, rfl⟩
        subst hgK
        by_cases hklt : k < m
        · obtain ⟨s, hs⟩ : ∃ s, r[k]? = some s := ⟨_, List.getElem?_eq_getElem (by rw [HM.out]; exact hklt)⟩
          obtain ⟨b2, off2, rfl, hb2, hcs⟩ := FT.out k s hs
          have hcs1 := (H1.out.2.cell (p := ⟨b2, off2 + k, none⟩) (Nat.lt_of_lt_of_le hb2 hB)).trans hcs
          replace hcs := (HO.out.2.cell (p := ⟨b2, off2 + k, none⟩) (Nat.lt_of_lt_of_le hb2 (Nat.le_trans hB s01))).trans hcs1
          have hsz := HXR.out s (List.mem_of_getElem? hs)
          obtain ⟨hkw, hsw⟩ := HWK.out k s hs
          obtain ⟨x, hx⟩ : ∃ x, W[k]? = some x := ⟨_, List.getElem?_eq_getElem hkw⟩
          have hxb := HWB.out x (List.mem_of_getElem? hx)
          have hgd : W.getD k 0 = x := by rw [List.getD_eq_getElem?_getD, hx]; rfl
          rw [hgd] at hsw
          obtain ⟨gw, cw, hwv, _⟩ := own_some H1.out.1 (by omega)
          injection hwv with e1 e2 e3
          subst e1
          subst e3
          have hcw0 := own_cell H1.out.1 (getElem?_map_natV hx)
          have hcw := (HO.out.2.cell (p := ⟨gw, k, none⟩) (World.block_lt_of_cell? w1 _ hcw0)).trans hcw0
          have hstep := HST.out k s hs acc.data.toList
          rw [HA.out] at hstep
          have cs := fun w' => refSigns_any s w' (by omega)
          have hsg := sg_le s
          have HCE : Hid (cellOf W m k s = (if 0 < k then [32, 124, 32] else []) ++ s.data.toList ++ (if k + 1 < m then List.replicate (x - sg s) 32 else [])) := by
            unfold Hid cellOf
            rw [hgd]
          have HSS := Lib.hid (And.intro hstep HCE.out)
          clear hs hcs1 hcw0 hstep hgd hx HCE
          generalize sg s = u at cs hsw hsg HSS
          by_cases hk0 : 0 < k
          · skip
            have hT : Hid (((acc ++ ⟨#[32, 124, 32]⟩) ++ s).data.toList = acc.data.toList ++ [32, 124, 32] ++ s.data.toList) := by unfold Hid; simp
            have hTz : ((acc ++ ⟨#[32, 124, 32]⟩) ++ s).size ≤ 12003 * k + 6003 := by
              have e1 : (⟨#[32, 124, 32]⟩ : ByteArray).size = 3 := rfl
              simp only [ByteArray.size_append, e1]; omega
            have hend : ∀ t : ByteArray, t.data.toList = ((acc ++ ⟨#[32, 124, 32]⟩) ++ s).data.toList ++ (if k + 1 < m then List.replicate (x - u) 32 else []) → Hid (t.data.toList ++ lineGo W (k + 1) (r.drop (k + 1)) = lineOf W r) := fun t ht => by
              unfold Hid
              rw [HSS.out.1, HSS.out.2, ht, hT.out]
              simp [hk0]
            have HE := Lib.hid hend
            clear hend hT
            by_cases hk1 : k + 1 < m
            · have hk2 : (k : Int) < (m : Int) - 1 := by omega
              go_wp2_with (go_at_call 28; refine (cs _).mono ?_; rintro e w2 ⟨rfl, rfl⟩)
              go_loopg [6, 8] (x - u) (fun q va vn wi => ∃ (d : Nat) (t : ByteArray), d + q = x - u ∧ vn = .int .i64 ((u + d : Nat) : Int) ∧ va = .string t ∧ t.size ≤ 12003 * k + 6003 + d ∧ Hid (t.data.toList = ((acc ++ ⟨#[32, 124, 32]⟩) ++ s).data.toList ++ List.replicate d 32) ∧ wi = w2)
              case atStart => exact ⟨0, _, by omega, by simp, rfl, by omega, by unfold Hid; simp, rfl⟩
              case round =>
                obtain ⟨d, t, hd, rfl, rfl, htz, HD, rfl⟩ := hrel
                by_cases hdl : u + d < x
                · have HD2 : Hid ((t ++ ⟨#[32]⟩ : ByteArray).data.toList = ((acc ++ ⟨#[32, 124, 32]⟩) ++ s).data.toList ++ List.replicate (d + 1) 32) := by
                    unfold Hid
                    rw [List.replicate_succ', ← List.append_assoc, ← HD.out]
                    simp
                  have hz2 : (t ++ ⟨#[32]⟩ : ByteArray).size ≤ 12003 * k + 6003 + (d + 1) := by
                    have e1 : (⟨#[32]⟩ : ByteArray).size = 1 := rfl
                    rw [ByteArray.size_append, e1]; omega
                  clear HD
                  go_wp2
                  go_roundg (gk - 1)
                  case measure => omega
                  case rel => exact ⟨d + 1, _, by omega, by go_num, rfl, hz2, HD2, rfl⟩
                · obtain rfl : d = x - u := by omega
                  have hfin := HE.out t (by rw [if_pos hk1]; exact HD.out)
                  clear HD HE
                  go_wp2
                  go_roundg (gK - 1)
                  case measure => omega
                  case rel => exact ⟨k + 1, t, by omega, by go_num, rfl, by omega, hfin, rfl⟩
            · have hk2 : ¬ (k : Int) < (m : Int) - 1 := by omega
              have hfin := HE.out ((acc ++ ⟨#[32, 124, 32]⟩) ++ s) (by rw [if_neg hk1]; simp)
              clear HE
              go_wp2_with (go_at_call 28; refine (cs _).mono ?_; rintro e w2 ⟨rfl, rfl⟩)
              refine wp_loop_rounds 1 ?_
              rw [rounds_succ]
              go_wp2
              all_goals
                go_roundg (gK - 1)
                case measure => omega
                case rel => exact ⟨k + 1, _, by omega, by go_num, rfl, by omega, hfin, rfl⟩
          · skip
            have hT : Hid ((acc ++ s).data.toList = acc.data.toList ++ [] ++ s.data.toList) := by unfold Hid; simp
            have hTz : (acc ++ s).size ≤ 12003 * k + 6003 := by
              simp only [ByteArray.size_append]; omega
            have hend : ∀ t : ByteArray, t.data.toList = (acc ++ s).data.toList ++ (if k + 1 < m then List.replicate (x - u) 32 else []) → Hid (t.data.toList ++ lineGo W (k + 1) (r.drop (k + 1)) = lineOf W r) := fun t ht => by
              unfold Hid
              rw [HSS.out.1, HSS.out.2, ht, hT.out]
              simp [hk0]
            have HE := Lib.hid hend
            clear hend hT
            by_cases hk1 : k + 1 < m
            · have hk2 : (k : Int) < (m : Int) - 1 := by omega
              go_wp2_with (go_at_call 28; refine (cs _).mono ?_; rintro e w2 ⟨rfl, rfl⟩)
              go_loopg [6, 8] (x - u) (fun q va vn wi => ∃ (d : Nat) (t : ByteArray), d + q = x - u ∧ vn = .int .i64 ((u + d : Nat) : Int) ∧ va = .string t ∧ t.size ≤ 12003 * k + 6003 + d ∧ Hid (t.data.toList = (acc ++ s).data.toList ++ List.replicate d 32) ∧ wi = w2)
              case atStart => exact ⟨0, _, by omega, by simp, rfl, by omega, by unfold Hid; simp, rfl⟩
              case round =>
                obtain ⟨d, t, hd, rfl, rfl, htz, HD, rfl⟩ := hrel
                by_cases hdl : u + d < x
                · have HD2 : Hid ((t ++ ⟨#[32]⟩ : ByteArray).data.toList = (acc ++ s).data.toList ++ List.replicate (d + 1) 32) := by
                    unfold Hid
                    rw [List.replicate_succ', ← List.append_assoc, ← HD.out]
                    simp
                  have hz2 : (t ++ ⟨#[32]⟩ : ByteArray).size ≤ 12003 * k + 6003 + (d + 1) := by
                    have e1 : (⟨#[32]⟩ : ByteArray).size = 1 := rfl
                    rw [ByteArray.size_append, e1]; omega
                  clear HD
                  go_wp2
                  go_roundg (gk - 1)
                  case measure => omega
                  case rel => exact ⟨d + 1, _, by omega, by go_num, rfl, hz2, HD2, rfl⟩
                · obtain rfl : d = x - u := by omega
                  have hfin := HE.out t (by rw [if_pos hk1]; exact HD.out)
                  clear HD HE
                  go_wp2
                  go_roundg (gK - 1)
                  case measure => omega
                  case rel => exact ⟨k + 1, t, by omega, by go_num, rfl, by omega, hfin, rfl⟩
            · have hk2 : ¬ (k : Int) < (m : Int) - 1 := by omega
              have hfin := HE.out (acc ++ s) (by rw [if_neg hk1]; simp)
              clear HE
              go_wp2_with (go_at_call 28; refine (cs _).mono ?_; rintro e w2 ⟨rfl, rfl⟩)
              refine wp_loop_rounds 1 ?_
              rw [rounds_succ]
              go_wp2
              all_goals
                go_roundg (gK - 1)
                case measure => omega
                case rel => exact ⟨k + 1, _, by omega, by go_num, rfl, by omega, hfin, rfl⟩
        · obtain rfl : k = m := by omega
          have hacc := hlast.out acc HA.out
          have HI2 := Lib.hid (And.intro HO.out.1 (And.intro HO.out.2 HLI.out))
          have HAC := Lib.hid hacc
          have hs1 := HO.out.2.size
          clear hacc HA HO HLI
          go_wp2_with (at_builtin; refine wpList_app1 _ rfl _ _ 27 rfl w1.heap.size 9 (.string ⟨#[]⟩) 16 Tryz.underlying27 str_info rfl _ i _ rfl (HI2.out.1.alloc _) _ 1 (.string acc) rfl (by simp) rfl (by unfold maxLen; omega) (by omega) (by simp; omega) ?_)
          intro v2 w2 ho2 hg2
          obtain ⟨LA', lc', rfl, _⟩ := own_slice ho2
          have HE : Hid (w2.ownsRow w1.heap.size 9 1 (.slice LA' (i + 1) lc') (i + 1) (((linesOf ls).map Value.string).take (i + 1)) ∧ Below w1.heap.size w1 w2) := by
            refine ⟨?_, (HI2.out.2.1.alloc hs1 _).grown hg2 (Nat.le_trans hs1 (by simp)) (fun j hj => (HI2.out.1.lt j hj).1)⟩
            rw [List.take_add_one, HI2.out.2.2, ← HAC.out]
            exact ho2
          clear ho2 hg2 HI2
          go_wp2
          go_roundg (gO - 1)
          case measure => omega
          case rel => exact ⟨i + 1, LA', lc', by omega, by go_num, by rfl, HE.out⟩
    · obtain rfl : i = n := by omega
      have hfin := HO.out.1
      have hll : (linesOf ls).length = i := by rw [HLO.out, List.length_map, HN.out]
      rw [List.take_of_length_le (by rw [List.length_map, hll]; exact Nat.le_refl _)] at hfin
      have HF := Lib.hid (And.intro hfin (And.intro hll HO.out.2))
      clear hfin hll HO
      go_wp2
      go_ret
      refine ⟨_, rfl, ?_, H1.out.2.trans (HF.out.2.2.mono s01)⟩
      rw [HF.out.2.1]
      exact own_mono HF.out.1 s01
end Go.Proofs.YtkfffoolpdilnaaGreatDoor
