/-
  Walks: Row of the tables' reference.
-/
import Derived.Test.YtkfffoolpdilnaaGreatDoorRtrim
import Derived.Test.YtkfffoolpdilnaaGreatDoorGQ
import Derived.Test.YtkfffoolpdilnaaGreatDoorVec2
import Derived.Test.YtkfffoolpdilnaaGreatDoorChg
namespace Go.Proofs.YtkfffoolpdilnaaGreatDoor
open Go.RowKit Go.Bd
def trB (l : Bs) : ByteArray := ⟨(trim l).toArray⟩
/-- all cells of a text behind its bar -/
def fullOf (t : Bs) : List ByteArray := (splitL (t.drop 1)).map trB
theorem pieces_tr (b : ByteArray) : (pieces b).map tr = (splitL b.data.toList).map trB := by
  rw [← pieces_list, List.map_map]
  rfl
theorem list_ne {s : ByteArray} (h : 0 < s.size) : s.data.toList = s[0] :: s.data.toList.drop 1 := by
  have e := list_head h
  rw [extract_list, List.take_of_length_le (by simp)] at e
  exact e
theorem begins_iff (s : ByteArray) : beginsB s = true ↔ ∃ h : 0 < (tr s).size, ((tr s)[0].toNat : Int) = 124 := by
  have e : beginsB s = Lib.hasPrefix (tr s).data.toList [124] := rfl
  rw [e]
  by_cases h : 0 < (tr s).size
  · rw [list_ne h, hasPrefix_cons]
    constructor
    · intro h1
      refine ⟨h, ?_⟩
      have : (tr s)[0] = 124 := by simpa using h1
      rw [this]; rfl
    · rintro ⟨_, h1⟩
      have : (tr s)[0] = 124 := UInt8.toNat_inj.1 (by show (tr s)[0].toNat = 124; omega)
      simp [this]
  · have : (tr s).data.toList = [] := List.eq_nil_of_length_eq_zero (by have := size_list (tr s); omega)
    rw [this]
    constructor
    · intro h1; exact absurd h1 (by decide)
    · rintro ⟨h1, _⟩; exact absurd h1 h
theorem rowOf_full {s : ByteArray} (h : beginsB s = true) : rowOf s = dropEnd (fullOf (tr s).data.toList) := by
  obtain ⟨h0, h1⟩ := (begins_iff s).1 h
  have h2 : (tr s)[0] = 124 := UInt8.toNat_inj.1 (by show (tr s)[0].toNat = 124; omega)
  have e := list_ne h0
  rw [h2] at e
  unfold rowOf fullOf
  rw [pieces_tr]
  congr 3
  show Lib.trimPrefix (tr s).data.toList [124] = _
  conv => lhs; rw [e]
  rw [trimPrefix_bar]
/-- no bar from fr up to i -/
def NoBar (t : Bs) (fr i : Nat) : Prop := 124 ∉ (t.drop fr).take (i - fr)
theorem NoBar.start (t : Bs) (i : Nat) : NoBar t i i := by unfold NoBar; simp
theorem NoBar.step {t : ByteArray} {fr i : Nat} (h : NoBar t.data.toList fr i) (hf : fr ≤ i) (hi : i < t.size) (hb : ¬ (t[i].toNat : Int) = 124) : NoBar t.data.toList fr (i + 1) := by
  unfold NoBar at h ⊢
  have hl : t.data.toList.length = t.size := by simp
  rw [show i + 1 - fr = (i - fr) + 1 by omega, List.take_add_one, List.getElem?_drop, show fr + (i - fr) = i by omega, List.getElem?_eq_getElem (by omega)]
  simp only [Option.toList_some, List.mem_append, List.mem_singleton, not_or]
  refine ⟨h, fun e => hb ?_⟩
  have e2 : t[i] = t.data.toList[i]'(by omega) := rfl
  rw [e2, ← e]; rfl
theorem split_hit {t : ByteArray} {fr i : Nat} (h : NoBar t.data.toList fr i) (hf : fr ≤ i) (hi : i < t.size) (hb : (t[i].toNat : Int) = 124) : splitL (t.data.toList.drop fr) = (t.extract fr i).data.toList :: splitL (t.data.toList.drop (i + 1)) := by
  have hl : t.data.toList.length = t.size := by simp
  have e : t.data.toList.drop fr = (t.data.toList.drop fr).take (i - fr) ++ 124 :: t.data.toList.drop (i + 1) := by
    have e1 := (List.take_append_drop (i - fr) (t.data.toList.drop fr)).symm
    rw [List.drop_drop, show fr + (i - fr) = i by omega, List.drop_eq_getElem_cons (by omega : i < t.data.toList.length)] at e1
    have e2 : t.data.toList[i]'(by omega) = 124 := UInt8.toNat_inj.1 (by show t[i].toNat = 124; omega)
    rw [e2] at e1
    exact e1
  rw [e, splitL_app _ _ h, extract_list]
theorem splitL_none : ∀ (l : Bs), 124 ∉ l → splitL l = [l]
  | [], _ => rfl
  | c :: l, h => by
    have h1 := splitL_none l (fun h' => h (List.mem_cons_of_mem _ h'))
    have hc : c ≠ 124 := fun e => h (by rw [e]; exact List.mem_cons_self ..)
    rw [splitL]
    simp [hc, h1]
theorem split_end {t : ByteArray} {fr : Nat} (h : NoBar t.data.toList fr t.size) : splitL (t.data.toList.drop fr) = [(t.extract fr t.size).data.toList] := by
  have hl : t.data.toList.length = t.size := by simp
  unfold NoBar at h
  rw [List.take_of_length_le (by rw [List.length_drop]; omega)] at h
  rw [splitL_none _ h, extract_list, List.take_of_length_le (by rw [List.length_drop]; omega)]
theorem refRow_none (s : ByteArray) (w : World) (hs : s.size ≤ 2147483647) (hb : beginsB s = false) :
    Calls Tryz.prog 19 #[.string s] w fun e w' => e = .returned (.tuple #[.slice none 0 0, .int .i64 4]) ∧ Below w.heap.size w w' := by
  have ct := refTrim_any s w (by omega)
  have h1 : ∀ h : 0 < (tr s).size, ¬ ((tr s)[0].toNat : Int) = 124 := fun h e => by
    have := (begins_iff s).2 ⟨h, e⟩
    rw [hb] at this; cases this
  have hle := tr_le s
  generalize tr s = t at ct h1 hle
  have H1 := Lib.hid h1
  clear h1 hb
  by_cases h0 : 0 < t.size
  · have h2 : ((t[0].toNat : Int) != 124) = true := by simpa using H1.out h0
    have h3 : t.toList.isEmpty = false := ba_nonempty (fun e => by rw [e] at h0; exact absurd h0 (by decide))
    go_enter Tryz.func19, Tryz.ntmps19
    go_wp2_with (go_at_call 86; refine ct.mono ?_; rintro e w1 ⟨rfl, rfl⟩)
    go_ret2
    exact ⟨rfl, Below.refl _ _⟩
  · have h2 : t = ⟨#[]⟩ := by
      have e : t.data.toList = [] := List.eq_nil_of_length_eq_zero (by have := size_list t; omega)
      exact mk_of e
    subst h2
    go_enter Tryz.func19, Tryz.ntmps19
    go_wp2_with (go_at_call 86; refine ct.mono ?_; rintro e w1 ⟨rfl, rfl⟩)
    go_ret2
    exact ⟨rfl, Below.refl _ _⟩
/-- how far the cells of a text are gathered -/
def Inv (t : ByteArray) (i fr : Nat) (acc : List ByteArray) : Prop :=
  (i ≤ t.size ∧ 1 ≤ fr ∧ fr ≤ i ∧ NoBar t.data.toList fr i ∧ acc ++ (splitL (t.data.toList.drop fr)).map trB = fullOf t.data.toList) ∨ (i = t.size + 1 ∧ acc = fullOf t.data.toList)
set_option maxRecDepth 100000 in
set_option maxHeartbeats 2000000 in
theorem refRow_some (s : ByteArray) (w : World) (hs : s.size ≤ 2147483647) (hb : beginsB s = true) :
    Calls Tryz.prog 19 #[.string s] w fun e w' => ∃ v, e = .returned (.tuple #[v, .int .i64 0]) ∧ Texts w' w'.heap.size v (rowOf s) ∧ Below w.heap.size w w' := by
  have ct := refTrim_any s w (by omega)
  rw [rowOf_full hb]
  obtain ⟨h0, h1⟩ := (begins_iff s).1 hb
  have hle := tr_le s
  generalize tr s = t at ct h0 h1 hle ⊢
  clear hb
  have h2 : ((t[0].toNat : Int) != 124) = false := by simpa using h1
  have h3 : t.toList.isEmpty = false := ba_nonempty (fun e => by rw [e] at h0; exact absurd h0 (by decide))
  clear h1
  go_enter Tryz.func19, Tryz.ntmps19
  go_wp2_with (go_at_call 86; refine ct.mono ?_; rintro e w1 ⟨rfl, rfl⟩)
  clear ct
  go_loopg [4, 5, 6] (t.size + 1) (fun q vl vf vi wr => ∃ (i fr : Nat) (acc : List ByteArray) (LA : Option Addr) (lc : Nat), q + i = t.size + 2 ∧ vi = .int .i64 (i : Int) ∧ vf = .int .i64 (fr : Int) ∧ vl = .slice LA acc.length lc ∧ acc.length + 1 ≤ i ∧ fr ≤ i ∧
    Hid (wr.ownsRow w.heap.size 9 1 (.slice LA acc.length lc) acc.length (acc.map Value.string) ∧ Below w.heap.size w wr ∧ Inv t i fr acc))
  case atStart => exact ⟨1, 1, [], none, 0, by omega, rfl, rfl, rfl, by simp, by omega, World.ownsRow_nil _ _ _ _, Below.refl _ _, .inl ⟨by omega, by omega, by omega, NoBar.start _ _, rfl⟩⟩
  case round =>
    obtain ⟨i, fr, acc, LA, lc, hq, rfl, rfl, rfl, hal, hfi, HI⟩ := hrel
    by_cases hi : i ≤ t.size
    · have hJ : NoBar t.data.toList fr i ∧ 1 ≤ fr ∧ acc ++ (splitL (t.data.toList.drop fr)).map trB = fullOf t.data.toList := by
        rcases HI.out.2.2 with ⟨_, a, _, b, c⟩ | ⟨a, _⟩
        · exact ⟨b, a, c⟩
        · omega
      by_cases hmiss : ∃ h : i < t.size, ¬ (t[i].toNat : Int) = 124
      · obtain ⟨hlt, hb⟩ := hmiss
        have hb2 : ((t[i].toNat : Int) == 124) = false := by simpa using hb
        have HN : Hid (wr.ownsRow w.heap.size 9 1 (.slice LA acc.length lc) acc.length (acc.map Value.string) ∧ Below w.heap.size w wr ∧ Inv t (i + 1) fr acc) :=
          ⟨HI.out.1, HI.out.2.1, .inl ⟨by omega, hJ.2.1, by omega, hJ.1.step hfi hlt hb, hJ.2.2⟩⟩
        clear hJ HI hb
        go_wp2
        go_roundg (gk - 1)
        case measure => omega
        case rel => exact ⟨i + 1, fr, acc, LA, lc, by omega, by go_num, rfl, rfl, by omega, by omega, HN.out⟩
      · have hnew : Inv t (i + 1) (i + 1) (acc ++ [tr (t.extract fr i)]) := by
          by_cases hlt : i < t.size
          · have hb : (t[i].toNat : Int) = 124 := by
              rcases Classical.em ((t[i].toNat : Int) = 124) with h | h
              · exact h
              · exact absurd ⟨hlt, h⟩ hmiss
            refine .inl ⟨by omega, by omega, Nat.le_refl _, NoBar.start _ _, ?_⟩
            rw [← hJ.2.2, split_hit hJ.1 hfi hlt hb, List.map_cons, List.append_assoc]
            rfl
          · obtain rfl : i = t.size := by omega
            refine .inr ⟨rfl, ?_⟩
            rw [← hJ.2.2, split_end hJ.1]
            rfl
        have hor : i = t.size ∨ ∃ h : i < t.size, ((t[i].toNat : Int) == 124) = true := by
          by_cases hlt : i < t.size
          · refine .inr ⟨hlt, ?_⟩
            rcases Classical.em ((t[i].toNat : Int) = 124) with h | h
            · simpa using h
            · exact absurd ⟨hlt, h⟩ hmiss
          · exact .inl (by omega)
        have ct := fun w' => refTrim_any (t.extract fr i) w' (by simp; omega)
        have HNW := Lib.hid hnew
        generalize tr (t.extract fr i) = x at ct HNW
        clear hnew hJ hmiss
        have HO := Lib.hid HI.out.1
        have hbs := HI.out.2.1.size
        have hend : ∀ (v1 : Value) (w1 : World), w1.ownsRow w.heap.size 9 1 v1 (acc.length + 1) (acc.map Value.string ++ [.string x]) → ∀ o, (wr.alloc o).grownBy w1 (Value.slice LA acc.length lc).ownBlock →
            ∃ LA' lc', v1 = .slice LA' (acc ++ [x]).length lc' ∧ Hid (w1.ownsRow w.heap.size 9 1 (.slice LA' (acc ++ [x]).length lc') (acc ++ [x]).length ((acc ++ [x]).map Value.string) ∧ Below w.heap.size w w1 ∧ Inv t (i + 1) (i + 1) (acc ++ [x])) := fun v1 w1 ho o hg => by
          obtain ⟨LA', lc', rfl, _⟩ := own_slice ho
          refine ⟨LA', lc', by simp, ?_, (HI.out.2.1.alloc hbs o).grown hg (Nat.le_trans hbs (by simp)) (fun k hk => (HO.out.lt k hk).1), HNW.out⟩
          simp only [List.length_append, List.length_singleton, List.map_append, List.map_cons, List.map_nil]
          exact ho
        have HE := Lib.hid hend
        clear hend HI
        rcases hor with rfl | ⟨hlt, hb⟩
        · skip
          go_wp2_with (first
            | (go_at_call 86; refine (ct _).mono ?_; rintro e w4 ⟨rfl, rfl⟩)
            | (at_builtin; refine wpList_app1 _ rfl _ _ 27 rfl w.heap.size 9 (.string ⟨#[]⟩) 16 Tryz.underlying27 str_info rfl _ acc.length _ rfl (HO.out.alloc _) _ 1 (.string x) rfl (by simp) rfl (by unfold maxLen; omega) (by omega) (by simp; omega) ?_))
          intro v1 w1 ho hg
          obtain ⟨LA', lc', rfl, HF⟩ := HE.out v1 w1 ho _ hg
          clear ho hg HO HE
          go_wp2
          go_roundg (gk - 1)
          case measure => omega
          case rel => exact ⟨t.size + 1, t.size + 1, acc ++ [x], LA', lc', by omega, by go_num, by go_num, rfl, by simp; omega, by omega, HF⟩
        · skip
          go_wp2_with (first
            | (go_at_call 86; refine (ct _).mono ?_; rintro e w4 ⟨rfl, rfl⟩)
            | (at_builtin; refine wpList_app1 _ rfl _ _ 27 rfl w.heap.size 9 (.string ⟨#[]⟩) 16 Tryz.underlying27 str_info rfl _ acc.length _ rfl (HO.out.alloc _) _ 1 (.string x) rfl (by simp) rfl (by unfold maxLen; omega) (by omega) (by simp; omega) ?_))
          intro v1 w1 ho hg
          obtain ⟨LA', lc', rfl, HF⟩ := HE.out v1 w1 ho _ hg
          clear ho hg HO HE
          go_wp2
          go_roundg (gk - 1)
          case measure => omega
          case rel => exact ⟨i + 1, i + 1, acc ++ [x], LA', lc', by omega, by go_num, by go_num, rfl, by simp; omega, by omega, HF⟩
    · have hacc : acc = fullOf t.data.toList := by
        rcases HI.out.2.2 with ⟨a, _⟩ | ⟨_, a⟩
        · omega
        · exact a
      have HA := Lib.hid hacc
      have hown := HI.out.1
      have HB := Lib.hid HI.out.2.1
      clear hacc HI
      by_cases h1 : 1 < acc.length
      · obtain ⟨m, hm⟩ : ∃ m, acc.length = m + 1 := ⟨acc.length - 1, by omega⟩
        obtain ⟨q, hq⟩ : ∃ q, acc[m]? = some q := ⟨_, List.getElem?_eq_getElem (by omega)⟩
        obtain ⟨g, cap, hv, _, _, hcap, _⟩ := own_some hown (by omega)
        injection hv with e1 _ e3
        subst e1
        subst e3
        have hmc : m ≤ lc := by omega
        clear hcap
        have hcq := own_cell hown (j := m) (u := .string q) (by rw [List.getElem?_map, hq]; rfl)
        have HOW := Lib.hid hown
        have HQ := Lib.hid (And.intro hq hm)
        rw [hm] at hal h1 ⊢
        clear hown hq hm
        by_cases hqe : q = ⟨#[]⟩
        · have e1 : dropEnd acc = acc.take m := by
            rw [dropEnd, if_pos, HQ.out.2, Nat.add_sub_cancel]
            rw [HQ.out.2, Nat.add_sub_cancel, List.getD_eq_getElem?_getD, HQ.out.1]
            exact ⟨by omega, hqe⟩
          have E1 := Lib.hid e1
          clear e1
          subst hqe
          go_wp2
          go_ret2
          refine ⟨_, rfl, ?_, HB.out⟩
          rw [← HA.out, E1.out]
          obtain ⟨v', hv', ho'⟩ := own_take HOW.out (j := m) (by have := HQ.out.2; omega)
          have := own_rd ho'
          rw [hv', Nat.mul_one, ← List.map_take] at this
          exact this
        · have e1 : dropEnd acc = acc := by
            rw [dropEnd, if_neg]
            rw [HQ.out.2, Nat.add_sub_cancel, List.getD_eq_getElem?_getD, HQ.out.1]
            exact fun h => hqe h.2
          have E1 := Lib.hid e1
          have hqn := ba_nonempty hqe
          clear e1 hqe
          go_wp2
          go_ret2
          refine ⟨_, rfl, ?_, HB.out⟩
          rw [← HA.out, E1.out]
          have := own_rd HOW.out
          rw [HQ.out.2] at this
          exact this
      · have e1 : dropEnd acc = acc := by
          rw [dropEnd, if_neg]
          exact fun h => h1 h.1
        have E1 := Lib.hid e1
        clear e1
        go_wp2
        go_ret2
        refine ⟨_, rfl, ?_, HB.out⟩
        rw [← HA.out, E1.out]
        exact own_rd hown
end Go.Proofs.YtkfffoolpdilnaaGreatDoor
