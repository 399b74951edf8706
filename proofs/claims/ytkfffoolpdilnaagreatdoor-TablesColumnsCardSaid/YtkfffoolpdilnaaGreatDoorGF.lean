/-
  Walks: the lines of texts.
-/
import Derived.Test.YtkfffoolpdilnaaGreatDoorGD
import Derived.Test.YtkfffoolpdilnaaGreatDoorShelf
import Derived.Shelf.Strings.Builder1
import Derived.Deep.RegionWith
import Derived.Deep.DeepCutAuto
import Derived.Deep.CutRange
namespace Go.Bd
/-- what one text adds to its line -/
def cellOf (w : List Nat) (n i : Nat) (s : ByteArray) : Bs := (if 0 < i then [32, 124, 32] else []) ++ s.data.toList ++ (if i + 1 < n then List.replicate (w.getD i 0 - sg s) 32 else [])
theorem lineGo_take (w : List Nat) (r : List ByteArray) (k : Nat) (s : ByteArray) (h : r[k]? = some s) (acc : Bs) : acc ++ lineGo w k (r.drop k) = (acc ++ cellOf w r.length k s) ++ lineGo w (k + 1) (r.drop (k + 1)) := by
  obtain ⟨hk, e⟩ := List.getElem?_eq_some_iff.1 h
  rw [List.drop_eq_getElem_cons hk, e, lineGo, cellOf]
  have hd : (r.drop (k + 1) = []) ↔ ¬ k + 1 < r.length := by rw [List.drop_eq_nil_iff]; omega
  by_cases hl : k + 1 < r.length
  · rw [if_neg (fun e => hd.1 e hl), if_pos hl]; simp only [List.append_assoc]
  · rw [if_pos (hd.2 hl), if_neg hl]; simp only [List.append_assoc]
end Go.Bd
namespace Go.Proofs.YtkfffoolpdilnaaGreatDoor
open Go.RowKit Go.Bd
theorem isBuilder_below {T e : TypeId} {B b : Nat} {bs : List Value} {w w' : World} (h : Lib.IsBuilder T e B b bs w) (hb : Below w.heap.size w w') : Lib.IsBuilder T e B b bs w' := by
  have one : ∀ p, Lib.BuilderAt T e B b p bs w → Lib.BuilderAt T e B b p bs w' := by
    rintro p ⟨hB, v, hh, ho, hne⟩
    exact ⟨hB, v, (hb.block b (Array.getElem?_eq_some_iff.1 hh).1).trans hh, own_below ho hb, hne⟩
  exact h.imp (one _) (one _)
theorem write_any (B b : Nat) (bs : List Value) (s : ByteArray) (w : World) (h : Lib.IsBuilder 67 5 B b bs w) (hlen : bs.length + s.size ≤ 140737488355328) (hBw : B ≤ w.heap.size) :
    Calls Tryz.prog 25 #[.pointer (some ⟨b, 0, none⟩), .string s] w fun e w' => e = .returned (.tuple #[.int .i64 s.size, .nilIface]) ∧ Lib.IsBuilder 67 5 B b (bs ++ Lib.byteCells s.data.toList) w' ∧ Below B w w' :=
  (Any.Builder_WriteString (ρ := Tryz.lays105_ren) { Tryz.lays105 with } Tryz.Builder_Extra_105 B b bs s w h hlen hBw).mono fun _ _ ⟨h1, h2, h3⟩ => ⟨h1, .inr h2, h3⟩
theorem write_bytes (B b : Nat) (l : Bs) (s : ByteArray) (w : World) (h : Lib.IsBuilder 67 5 B b (Lib.byteCells l) w) (hlen : l.length + s.size ≤ 140737488355328) (hBw : B ≤ w.heap.size) :
    Calls Tryz.prog 25 #[.pointer (some ⟨b, 0, none⟩), .string s] w fun e w' => e = .returned (.tuple #[.int .i64 s.size, .nilIface]) ∧ Lib.IsBuilder 67 5 B b (Lib.byteCells (l ++ s.data.toList)) w' ∧ Below B w w' :=
  (write_any B b _ s w h (by rw [Lib.byteCells_length]; exact hlen) hBw).mono fun _ _ ⟨h1, h2, h3⟩ => ⟨h1, by rw [Lib.byteCells, List.map_append]; exact h2, h3⟩
theorem repeat_any (n : Nat) (w : World) (hn : n ≤ 1048576) :
    Calls Tryz.prog 26 #[.string ⟨#[32]⟩, .int .i64 n] w fun e w' => e = .returned (strV (List.replicate n 32)) ∧ Below w.heap.size w w' := by
  refine (Tryz.strings_Repeat ⟨#[32]⟩ n w (by omega) (by show 1 * n ≤ _; omega)).mono ?_
  rintro e w' ⟨he, hb⟩
  refine ⟨?_, hb⟩
  rw [he, strV]
  congr 4
  show Lib.repeatL [32] n = _
  have := Lib.repeatL_replicate 32 1 n
  simpa using this
theorem str_info : (Tryz.prog.info? 9).map (fun i => (i.zero, i.size, i.bytes)) = some (some (.string ⟨#[]⟩), 1, 16) := by kernel_rfl
set_option maxRecDepth 100000 in
set_option maxHeartbeats 1000000 in
theorem lines_any (v : Value) (ls : List (List ByteArray)) (w : World) (B : Nat) (h : Grid w B v ls) (hB : B ≤ w.heap.size) (hl : ls.length ≤ 1048576) (hr : ∀ r ∈ ls, r.length ≤ 1048576) (hx : ∀ r ∈ ls, ∀ s ∈ r, s.size ≤ 1048576) :
    Calls Tryz.prog 8 #[v] w fun e w' => ∃ v', e = .returned v' ∧ w'.ownsRow w.heap.size 9 1 v' (linesOf ls).length ((linesOf ls).map Value.string) ∧ Below w.heap.size w w' := by
  have cw := widths_any v ls w B h hB hl hr hx
  obtain ⟨A, c, rfl, hc, f⟩ := h.form
  have F := Lib.hid f
  have HX := Lib.hid hx
  have HR := Lib.hid hr
  have HW := Lib.hid (fun r hr k s hs => wid_row (ls := ls) (r := r) hr (k := k) (s := s) hs)
  have HWB := Lib.hid (wid_bound hx)
  have HL : Hid (linesOf ls = ls.map fun r => ⟨(lineOf (wid ls) r).toArray⟩) := rfl
  clear f hx hr h
  generalize wid ls = W at cw HW HWB HL
  generalize linesOf ls = out at HL ⊢
  generalize hn : ls.length = n at hl hc cw ⊢
  have HN := Lib.hid hn
  clear hn
  go_enter Tryz.func8, Tryz.ntmps8
  go_wp2_with (first
    | (go_at_call 7; refine cw.mono ?_; rintro e w1 ⟨vW, rfl, hoW, hb1⟩)
    | (at_make; refine wpList_make0 _ rfl _ _ 27 rfl w1.heap.size 9 (.string ⟨#[]⟩) 16 Tryz.underlying27 str_info .i64 .i64 _ n (by rfl) (by rfl) rfl (by omega) (by unfold maxLen; omega) (Nat.le_refl _) ?_))
  intro w2 hown2 hgr2
  have hb2 : Below w.heap.size w w2 := hb1.grown hgr2 hb1.size (fun k h => by cases h)
  have hb12 : Below w1.heap.size w1 w2 := (Below.refl _ _).grown hgr2 (Nat.le_refl _) (fun k h => by cases h)
  have hRW := (own_rd hoW).below hb12
  have hg1 := hb1.size
  have hgL := (hown2.lt _ rfl).2
  have hown3 := hown2
  clear hown2
  generalize w1.heap.size = g at hown3 hgL hg1 hRW
  clear hb1 hoW hb12 hgr2 cw
  obtain ⟨W0, cW, rfl, hcW, fW⟩ := hRW.form
  rw [List.length_map] at hcW
  have FW := Lib.hid fW
  clear fW hRW
  go_wp2
  go_loopg [4, 17] n (fun q v i wr => ∃ k : Nat, k + q = n ∧ i = .int .i64 k ∧ wr.ownsRow g 9 1 v k ((out.take k).map Value.string) ∧ Below g w2 wr)
  case atStart => exact ⟨0, by omega, rfl, hown3, Below.refl _ _⟩
  case round =>
    clear hown3
    obtain ⟨k, hk, rfl, hown, hbl⟩ := hrel
    by_cases hlt : k < n
    · obtain ⟨r, hrk⟩ : ∃ r, ls[k]? = some r := ⟨_, List.getElem?_eq_getElem (by rw [HN.out]; exact hlt)⟩
      obtain ⟨b, off, rA, rc, rfl, hbB, hcr, htx⟩ := F.out k r hrk
      have hbw : Below w.heap.size w wr := hb2.trans (hbl.mono hg1)
      have hsz2 := hbl.size
      replace hcr := (hbw.cell (p := ⟨b, off + k, none⟩) (Nat.lt_of_lt_of_le hbB hB)).trans hcr
      have hmem := List.mem_of_getElem? hrk
      have hrl := HR.out r hmem
      have HXR := Lib.hid (HX.out r hmem)
      have HWR := Lib.hid (HW.out r hmem)
      obtain ⟨_, _, e1, hrc, ft⟩ := htx.form
      cases e1
      have FT := Lib.hid ft
      have HK := Lib.hid (show out.take (k + 1) = out.take k ++ [⟨(lineOf W r).toArray⟩] by
        rw [HL.out, List.take_add_one, List.getElem?_map, hrk]; rfl)
      clear hrk hmem htx ft
      generalize hm : r.length = m at hrl hrc hcr
      have HM := Lib.hid hm
      clear hm
      obtain ⟨gO, hgO⟩ : ∃ g, g = gk := ⟨_, rfl⟩
      subst hgO
      obtain ⟨wO, hwO⟩ : ∃ x, x = wr := ⟨_, rfl⟩
      subst hwO
      go_wp2
      go_loopg [23] m (fun q i wr => ∃ (j : Nat) (acc : Bs), j + q = m ∧ i = .int .i64 j ∧ Lib.IsBuilder 67 5 wO.heap.size wO.heap.size (Lib.byteCells acc) wr ∧ Below wO.heap.size wO wr ∧ Hid (acc ++ lineGo W j (r.drop j) = lineOf W r) ∧ acc.length ≤ j * 4194304)
      case atStart => exact ⟨0, [], by omega, rfl, Lib.fresh_isBuilder _ _ _, (Below.refl _ _).alloc (Nat.le_refl _) _, rfl, by simp⟩
      case round =>
        obtain ⟨j, acc, hj, rfl, hI, hbx, HA, hal⟩ := hrel
        clear hcr
        by_cases hjlt : j < m
        · obtain ⟨s, hs⟩ : ∃ s, r[j]? = some s := ⟨_, List.getElem?_eq_getElem (by rw [HM.out]; exact hjlt)⟩
          obtain ⟨b2, off2, rfl, hb2', hcs⟩ := FT.out j s hs
          have hbwx : Below w.heap.size w wr := (hb2.trans (hbl.mono hg1)).trans (hbx.mono (by omega))
          replace hcs := (hbwx.cell (p := ⟨b2, off2 + j, none⟩) (Nat.lt_of_lt_of_le hb2' hB)).trans hcs
          have hsz := HXR.out s (List.mem_of_getElem? hs)
          have HS := Lib.hid (lineGo_take W r j s hs acc)
          obtain ⟨hjW, hsgW⟩ := HWR.out j s hs
          clear hs
          have wr1 := fun (l : Bs) (s : ByteArray) (w' : World) (h : Lib.IsBuilder 67 5 wO.heap.size wO.heap.size (Lib.byteCells l) w') (hlen : l.length + s.size ≤ 140737488355328) (hB : wO.heap.size ≤ w'.heap.size) => write_bytes wO.heap.size wO.heap.size l s w' h hlen hB
          obtain ⟨bw, ow, rfl, hbw2, hcw⟩ := FW.out j (natV (W.getD j 0)) (by rw [List.getElem?_map, List.getD_eq_getElem?_getD, List.getElem?_eq_getElem hjW]; rfl)
          unfold natV at hcw
          have hxb : W.getD j 0 ≤ 1048576 := HWB.out _ (by rw [List.getD_eq_getElem?_getD, List.getElem?_eq_getElem hjW]; exact List.getElem_mem hjW)
          have hsgs := sg_le s
          by_cases hp : 0 < j
          · by_cases hla : j + 1 < m
            · go_wp2_with fail
              refine (wr1 acc ⟨#[32, 124, 32]⟩ _ hI (by show acc.length + 3 ≤ _; omega) hbx.size).mono ?_
              rintro e w4 ⟨rfl, hI4, hb4⟩
              have hbx4 := hbx.trans hb4
              go_wp2_with fail
              refine (wr1 (acc ++ [32, 124, 32]) s _ hI4 (by rw [List.length_append]; show acc.length + 3 + _ ≤ _; omega) hbx4.size).mono ?_
              rintro e w5 ⟨rfl, hI5, hb5⟩
              have hbx5 := hbx4.trans hb5
              have hcw5 := (((hbl.trans (hbx5.mono (by omega))).cell (p := ⟨bw, ow + j, none⟩) hbw2)).trans hcw
              have cs5 := fun w' => signs_any s w' (by omega)
              have cr5 := fun w' => repeat_any (W.getD j 0 - sg s) w' (by omega)
              have hlen : (acc ++ [32, 124, 32] ++ s.data.toList).length + (List.replicate (W.getD j 0 - sg s) (32 : UInt8)).length ≤ 140737488355328 := by
                simp only [List.length_append, List.length_replicate, List.length_cons, List.length_nil, ← size_list]
                omega
              have wr2 := fun (w' : World) hI hB => wr1 (acc ++ [32, 124, 32] ++ s.data.toList) ⟨(List.replicate (W.getD j 0 - sg s) 32).toArray⟩ w' hI hlen hB
              clear hlen
              unfold strV at cr5
              have hsub : ((W.getD j 0 : Nat) : Int) - (sg s : Nat) = ((W.getD j 0 - sg s : Nat) : Int) := by omega
              have HS2 : Hid (acc ++ lineGo W j (r.drop j) = (acc ++ [32, 124, 32] ++ s.data.toList ++ List.replicate (W.getD j 0 - sg s) 32) ++ lineGo W (j + 1) (r.drop (j + 1))) := by
                unfold Hid
                rw [HS.out, cellOf, if_pos hp, if_pos (by rw [HM.out]; exact hla)]
                simp only [List.append_assoc, List.nil_append]
              clear hcs wr1
              generalize W.getD j 0 = x at hcw5 hsub cr5 wr2 hsgW hxb HS2
              generalize sg s = y at hsub cr5 wr2 hsgW cs5 HS2 hsgs
              go_wp2_with fail
              have hwr : IntKind.i64.wrap ((x - y : Nat) : Int) = ((x - y : Nat) : Int) := IntWalk.i64_in _ (by omega)
              go_region_with (first
                | (go_at_call 24; refine (cs5 _).mono ?_; rintro e w6 ⟨rfl, hb6d⟩; have hb6 : Below w5.heap.size w5 w6 := ((Below.refl _ _).drew).trans hb6d; have hI6 := isBuilder_below hI5 hb6; have hbx6 := hbx5.trans (hb6.mono hbx5.size); have hcw6 := (hb6.cell (p := ⟨bw, ow + j, none⟩) (World.block_lt_of_cell? _ _ hcw5)).trans hcw5)
                | (go_at_call 26; refine (cr5 _).mono ?_; rintro e w7 ⟨rfl, hb7⟩; have hI7 := isBuilder_below hI6 hb7; have hbx7 := hbx6.trans (hb7.mono hbx6.size))
                | (go_at_call 25; refine (wr2 _ hI7 hbx7.size).mono ?_; rintro e w8 ⟨rfl, hI8, hb8⟩; have hbx8 := hbx7.trans hb8))
              all_goals
                go_wp2
                go_roundg (gk - 1)
                case measure => omega
                case rel =>
                  refine ⟨j + 1, acc ++ [32, 124, 32] ++ s.data.toList ++ List.replicate (x - y) 32, by omega, by go_num, hI8, hbx8, ?_, ?_⟩
                  · unfold Hid
                    rw [← HA.out, HS2.out]
                  · simp only [List.length_append, List.length_replicate, List.length_cons, List.length_nil, ← size_list]
                    omega
            · go_wp2_with fail
              refine (wr1 acc ⟨#[32, 124, 32]⟩ _ hI (by show acc.length + 3 ≤ _; omega) hbx.size).mono ?_
              rintro e w4 ⟨rfl, hI4, hb4⟩
              have hbx4 := hbx.trans hb4
              go_wp2_with fail
              refine (wr1 (acc ++ [32, 124, 32]) s _ hI4 (by rw [List.length_append]; show acc.length + 3 + _ ≤ _; omega) hbx4.size).mono ?_
              rintro e w5 ⟨rfl, hI5, hb5⟩
              have hbx5 := hbx4.trans hb5
              clear hcs wr1
              go_wp2
              go_roundg (gk - 1)
              case measure => omega
              case rel =>
                refine ⟨j + 1, acc ++ [32, 124, 32] ++ s.data.toList, by omega, by go_num, hI5, hbx5, ?_, by simp; omega⟩
                unfold Hid
                rw [← HA.out, HS.out, cellOf, if_pos hp, if_neg (by rw [HM.out]; exact hla)]
                simp only [List.append_assoc, List.append_nil, List.nil_append]
          · by_cases hla : j + 1 < m
            · have hl4 : acc.length ≤ 0 := by omega
              go_wp2_with fail
              refine (wr1 acc s _ hI (by omega) hbx.size).mono ?_
              rintro e w5 ⟨rfl, hI5, hb5⟩
              have hbx5 := hbx.trans hb5
              have hcw5 := (((hbl.trans (hbx5.mono (by omega))).cell (p := ⟨bw, ow + j, none⟩) hbw2)).trans hcw
              have cs5 := fun w' => signs_any s w' (by omega)
              have cr5 := fun w' => repeat_any (W.getD j 0 - sg s) w' (by omega)
              have hlen : (acc ++ s.data.toList).length + (List.replicate (W.getD j 0 - sg s) (32 : UInt8)).length ≤ 140737488355328 := by
                simp only [List.length_append, List.length_replicate, List.length_cons, List.length_nil, ← size_list]
                omega
              have wr2 := fun (w' : World) hI hB => wr1 (acc ++ s.data.toList) ⟨(List.replicate (W.getD j 0 - sg s) 32).toArray⟩ w' hI hlen hB
              clear hlen
              unfold strV at cr5
              have hsub : ((W.getD j 0 : Nat) : Int) - (sg s : Nat) = ((W.getD j 0 - sg s : Nat) : Int) := by omega
              have HS2 : Hid (acc ++ lineGo W j (r.drop j) = (acc ++ s.data.toList ++ List.replicate (W.getD j 0 - sg s) 32) ++ lineGo W (j + 1) (r.drop (j + 1))) := by
                unfold Hid
                rw [HS.out, cellOf, if_neg hp, if_pos (by rw [HM.out]; exact hla)]
                simp only [List.append_assoc, List.nil_append]
              clear hcs wr1
              generalize W.getD j 0 = x at hcw5 hsub cr5 wr2 hsgW hxb HS2
              generalize sg s = y at hsub cr5 wr2 hsgW cs5 HS2 hsgs
              go_wp2_with fail
              have hwr : IntKind.i64.wrap ((x - y : Nat) : Int) = ((x - y : Nat) : Int) := IntWalk.i64_in _ (by omega)
              go_region_with (first
                | (go_at_call 24; refine (cs5 _).mono ?_; rintro e w6 ⟨rfl, hb6d⟩; have hb6 : Below w5.heap.size w5 w6 := ((Below.refl _ _).drew).trans hb6d; have hI6 := isBuilder_below hI5 hb6; have hbx6 := hbx5.trans (hb6.mono hbx5.size); have hcw6 := (hb6.cell (p := ⟨bw, ow + j, none⟩) (World.block_lt_of_cell? _ _ hcw5)).trans hcw5)
                | (go_at_call 26; refine (cr5 _).mono ?_; rintro e w7 ⟨rfl, hb7⟩; have hI7 := isBuilder_below hI6 hb7; have hbx7 := hbx6.trans (hb7.mono hbx6.size))
                | (go_at_call 25; refine (wr2 _ hI7 hbx7.size).mono ?_; rintro e w8 ⟨rfl, hI8, hb8⟩; have hbx8 := hbx7.trans hb8))
              all_goals
                go_wp2
                go_roundg (gk - 1)
                case measure => omega
                case rel =>
                  refine ⟨j + 1, acc ++ s.data.toList ++ List.replicate (x - y) 32, by omega, by go_num, hI8, hbx8, ?_, ?_⟩
                  · unfold Hid
                    rw [← HA.out, HS2.out]
                  · simp only [List.length_append, List.length_replicate, List.length_cons, List.length_nil, ← size_list]
                    omega
            · have hl4 : acc.length ≤ 0 := by omega
              go_wp2_with fail
              refine (wr1 acc s _ hI (by omega) hbx.size).mono ?_
              rintro e w5 ⟨rfl, hI5, hb5⟩
              have hbx5 := hbx.trans hb5
              clear hcs wr1
              go_wp2
              go_roundg (gk - 1)
              case measure => omega
              case rel =>
                refine ⟨j + 1, acc ++ s.data.toList, by omega, by go_num, hI5, hbx5, ?_, by simp; omega⟩
                unfold Hid
                rw [← HA.out, HS.out, cellOf, if_neg hp, if_neg (by rw [HM.out]; exact hla)]
                simp only [List.append_assoc, List.append_nil, List.nil_append]
        · have HAcc : Hid (acc = lineOf W r) := by
            unfold Hid
            have := HA.out
            rwa [List.drop_of_length_le (by rw [HM.out]; omega), lineGo, List.append_nil] at this
          have cS := Tryz.Builder_String_any wO.heap.size wO.heap.size acc wr hI hbx.size
          have hown0 := own_below hown hbx
          go_wp2_with (first
            | (go_at_call 27; refine cS.mono ?_; rintro e w4 ⟨rfl, hb4⟩; have hown4 := own_below hown (hbx.trans hb4); have hs4 := (hbx.trans hb4).size)
            | (at_builtin; refine wpList_app1 _ rfl _ _ 27 rfl g 9 (.string ⟨#[]⟩) 16 Tryz.underlying27 str_info rfl _ k _ rfl (hown4.alloc _) _ 1 (.string ⟨acc.toArray⟩) rfl (by simp) rfl (by unfold maxLen; omega) (by omega) (by simp; omega) ?_))
          intro v5 w5 hown5 hgr5
          have hbl5 : Below g w2 w5 := ((hbl.trans ((hbx.trans hb4).mono (by omega))).alloc (by omega) _).grown hgr5 (by simp; omega) (fun q hq => (hown4.lt q hq).1)
          go_wp2
          go_roundg (gO - 1)
          case measure => omega
          case rel =>
            refine ⟨k + 1, by omega, by go_num, ?_, hbl5⟩
            rw [HK.out, List.map_append, ← HAcc.out, List.map_take]
            exact hown5
    · go_wp2
      go_ret
      have e : out.take k = out := List.take_of_length_le (by rw [HL.out, List.length_map, HN.out]; omega)
      have e2 : k = out.length := by
        have := own_length hown
        rw [e, List.length_map] at this; omega
      rw [e] at hown
      subst e2
      exact ⟨_, rfl, own_mono hown hg1, hb2.trans (hbl.mono hg1)⟩
end Go.Proofs.YtkfffoolpdilnaaGreatDoor
