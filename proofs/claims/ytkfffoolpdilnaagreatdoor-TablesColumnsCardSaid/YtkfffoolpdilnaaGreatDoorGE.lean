/-
  Walks: the cells of a line.
-/
import Derived.Test.YtkfffoolpdilnaaGreatDoorGA
import Derived.Test.YtkfffoolpdilnaaGreatDoorTrim
import Derived.Lib.SplitLaws
namespace Go.Bd
def tr (b : ByteArray) : ByteArray := ⟨(trim b.data.toList).toArray⟩
def bar : ByteArray := ⟨#[124]⟩
def pieces (b : ByteArray) : List ByteArray := Lib.splitB bar 0 (Lib.countB b bar) b
def dropEnd (xs : List ByteArray) : List ByteArray := if 1 < xs.length ∧ xs.getD (xs.length - 1) ⟨#[]⟩ = ⟨#[]⟩ then xs.take (xs.length - 1) else xs
def beginsB (s : ByteArray) : Bool := Lib.hasPrefix (trim s.data.toList) [124]
def rowOf (s : ByteArray) : List ByteArray := dropEnd ((pieces ⟨(Lib.trimPrefix (trim s.data.toList) [124]).toArray⟩).map tr)
theorem pieces_length (b : ByteArray) : (pieces b).length = Lib.countB b bar + 1 := Lib.splitB_all bar (by decide) 0 _ b rfl
theorem tr_le (b : ByteArray) : (tr b).size ≤ b.size := by
  have := trim_le b.data.toList
  rw [← size_list] at this
  exact this
theorem extract_size_le (s : ByteArray) (a b : Nat) : (s.extract a b).size ≤ s.size := by rw [ByteArray.size_extract]; omega
theorem splitB_size : ∀ (k : Nat) (s p : ByteArray), p ∈ Lib.splitB bar 0 k s → p.size ≤ s.size
  | 0, s, p, h => by
    rw [Lib.splitB, List.mem_singleton] at h; subst h; exact Nat.le_refl _
  | k + 1, s, p, h => by
    rw [Lib.splitB] at h
    split at h
    · rw [List.mem_singleton] at h; subst h; exact Nat.le_refl _
    · rcases List.mem_cons.1 h with rfl | h
      · exact extract_size_le _ _ _
      · exact Nat.le_trans (splitB_size k _ p h) (extract_size_le _ _ _)
theorem pieces_size {b p : ByteArray} (h : p ∈ pieces b) : p.size ≤ b.size := splitB_size _ _ _ h
end Go.Bd
namespace Go.Proofs.YtkfffoolpdilnaaGreatDoor
open Go.RowKit Go.Bd
theorem str_info : (Tryz.prog.info? 9).map (fun i => (i.zero, i.size, i.bytes)) = some (some (.string ⟨#[]⟩), 1, 16) := by kernel_rfl
theorem mix_step {α β : Type} (f : α → β) (g : α → β) (xs : List α) (k : Nat) (x : α) (h : xs[k]? = some x) :
    ((xs.take k).map f ++ (xs.drop k).map g).set k (f x) = (xs.take (k + 1)).map f ++ (xs.drop (k + 1)).map g := by
  obtain ⟨hk, e⟩ := List.getElem?_eq_some_iff.1 h
  rw [List.set_append, if_neg (by simp; omega), List.take_succ_eq_append_getElem hk, e, List.map_append, List.append_assoc]
  congr 1
  rw [List.length_map, List.length_take, Nat.min_eq_left (by omega), Nat.sub_self, List.drop_eq_getElem_cons hk, List.map_cons, List.set_cons_zero]
  rfl
theorem mix_at {α β : Type} (f : α → β) (g : α → β) (xs : List α) (k : Nat) (x : α) (h : xs[k]? = some x) : ((xs.take k).map f ++ (xs.drop k).map g)[k]? = some (g x) := by
  obtain ⟨hk, e⟩ := List.getElem?_eq_some_iff.1 h
  rw [List.getElem?_append_right (by simp; omega), List.length_map, List.length_take, Nat.min_eq_left (by omega), Nat.sub_self, List.drop_eq_getElem_cons hk, e]
  rfl
def trV (b : ByteArray) : Value := strV (trim b.data.toList)
/-- a row that was refused -/
theorem row_none (s : ByteArray) (w : World) (hs : s.size ≤ 2147483647) (hb : beginsB s = false) :
    Calls Tryz.prog 18 #[.string s] w fun e w' => e = .returned (.tuple #[.slice none 0 0, .int .i64 4]) ∧ Below w.heap.size w w' := by
  have ct := strTrim_any s w (by omega)
  have cp := fun w' => Tryz.strings_CutPrefix ⟨(trim s.data.toList).toArray⟩ bar w'
  rw [show Lib.hasPrefix (⟨(trim s.data.toList).toArray⟩ : ByteArray).data.toList bar.data.toList = false from hb] at cp
  unfold bar at cp
  generalize (⟨(trim s.data.toList).toArray⟩ : ByteArray).data.toList = l at cp
  generalize Lib.trimPrefix l _ = r at cp
  unfold strV at ct
  go_enter Tryz.func18, Tryz.ntmps18
  go_wp2_with (first
    | (go_at_call 84; refine ct.mono ?_; rintro e w1 ⟨rfl, hb⟩)
    | (go_at_call 83; refine (cp _).mono ?_; rintro e w2 ⟨rfl, hw⟩; subst hw))
  go_ret2
  exact ⟨rfl, hb⟩
theorem own_lit (w : World) (e : TypeId) (xs : List Value) (h : xs.length ≤ maxLen) : (w.alloc (.cells xs.toArray e)).ownsRow w.heap.size e 1 (.slice (some ⟨w.heap.size, 0, none⟩) xs.length xs.length) xs.length xs :=
  ⟨by simp, .inr ⟨w.heap.size, xs.length, xs.toArray, rfl, Nat.le_refl _, heap_alloc_new w _, Nat.le_refl _, h, by simp, by simp⟩⟩
set_option maxRecDepth 100000 in
set_option maxHeartbeats 1000000 in
theorem row_some (s : ByteArray) (w : World) (m : Int) (hm : w.cell? ⟨0, 0, none⟩ = some (.int .i64 m)) (hs : s.size ≤ 2147483647) (hb : beginsB s = true) :
    Calls Tryz.prog 18 #[.string s] w fun e w' => ∃ v, e = .returned (.tuple #[v, .int .i64 0]) ∧ w'.ownsRow w.heap.size 9 1 v (rowOf s).length ((rowOf s).map Value.string) ∧ Below w.heap.size w w' := by
  have hle := trim_le s.data.toList
  rw [← size_list] at hle
  have ct := strTrim_any s w (by omega)
  have hmg : 0 < w.heap.size := World.block_lt_of_cell? w _ hm
  have cp := fun w' => Tryz.strings_CutPrefix ⟨(trim s.data.toList).toArray⟩ bar w'
  rw [show Lib.hasPrefix (⟨(trim s.data.toList).toArray⟩ : ByteArray).data.toList bar.data.toList = true from hb] at cp
  obtain ⟨bh, hbh⟩ : ∃ bh : ByteArray, bh = ⟨(Lib.trimPrefix (trim s.data.toList) [124]).toArray⟩ := ⟨_, rfl⟩
  have hbs : bh.size ≤ 2147483647 := by
    rw [hbh, size_mk]
    have : (Lib.trimPrefix (trim s.data.toList) [124]).length ≤ (trim s.data.toList).length := by
      unfold Lib.trimPrefix; split <;> simp
    omega
  have hro : rowOf s = dropEnd ((pieces bh).map tr) := by rw [hbh]; rfl
  rw [show (⟨(Lib.trimPrefix (⟨(trim s.data.toList).toArray⟩ : ByteArray).data.toList bar.data.toList).toArray⟩ : ByteArray) = bh from hbh.symm] at cp
  clear hbh
  have cs := fun (w' : World) (hm' : w'.cell? ⟨0, 0, none⟩ = some (.int .i64 m)) => Tryz.strings_Split bh bar m w' (by omega) hm' (by decide)
  have hpl := pieces_length bh
  have hcl := Lib.countB_le bar (by decide) _ bh (Nat.le_refl _)
  unfold bar at cp
  generalize (trim s.data.toList) = l at ct cp
  unfold strV at ct
  rw [hro]
  clear hro hb hle
  go_enter Tryz.func18, Tryz.ntmps18
  go_wp2_with (first
    | (go_at_call 84; refine ct.mono ?_; rintro e w1 ⟨rfl, hb1⟩)
    | (go_at_call 83; refine (cp _).mono ?_; rintro e w2 ⟨rfl, hw⟩; subst hw))
  have hm1 := (hb1.cell (p := ⟨0, 0, none⟩) hmg).trans hm
  have c1 : Calls Tryz.prog 85 #[.string bh, .string ⟨#[124]⟩] w2 fun e w' => e = .returned (.slice (some ⟨w2.heap.size, 0, none⟩) (pieces bh).length (pieces bh).length) ∧ w' = w2.alloc (.cells ((pieces bh).map Value.string).toArray 9) := by
    rw [hpl]; exact cs _ hm1
  have ho := own_lit w2 9 ((pieces bh).map Value.string) (by rw [List.length_map]; unfold maxLen; omega)
  rw [List.length_map] at ho
  have hb2 : Below w.heap.size w (w2.alloc (.cells ((pieces bh).map Value.string).toArray 9)) := hb1.alloc hb1.size _
  have HPS := Lib.hid (fun p (hp : p ∈ pieces bh) => pieces_size hp)
  have hn1 : 1 ≤ (pieces bh).length := by omega
  have hn2 : (pieces bh).length ≤ 2147483648 := by omega
  generalize hP : pieces bh = P at c1 ho hb2 HPS hn1 hn2 ⊢
  have HP := Lib.hid hP
  clear hP cs hpl hcl cp ct
  generalize hn : P.length = n at c1 ho hn1 hn2
  have HN := Lib.hid hn
  clear hn
  refine c1.mono ?_
  clear c1
  rintro e w3 ⟨rfl, rfl⟩
  have hg0 := hb1.size
  generalize w2.alloc (.cells (P.map Value.string).toArray 9) = w3 at ho hb2 ⊢
  generalize w2.heap.size = g at ho hg0 ⊢
  go_wp2
  go_loopg [23] n (fun r i wr => ∃ k : Nat, k + r = n ∧ i = .int .i64 k ∧ wr.ownsRow g 9 1 (.slice (some ⟨g, 0, none⟩) n n) n ((P.take k).map trV ++ (P.drop k).map Value.string) ∧ Below w.heap.size w wr)
  case atStart => exact ⟨0, by omega, rfl, by simpa using ho, hb2⟩
  case round =>
    clear ho hb2
    obtain ⟨k, hk, rfl, hown, hbl⟩ := hrel
    by_cases hlt : k < n
    · obtain ⟨p, hp⟩ : ∃ p, P[k]? = some p := ⟨_, List.getElem?_eq_getElem (by rw [HN.out]; exact hlt)⟩
      have HST := Lib.hid (mix_step trV Value.string P k p hp)
      have hcp := own_cell hown (mix_at trV Value.string P k p hp)
      have hsz := HPS.out p (List.mem_of_getElem? hp)
      have ct := fun w' => strTrim_any p w' (by omega)
      have hv : strV (trim p.data.toList) = Value.string (tr p) := rfl
      have hv2 : trV p = Value.string (tr p) := rfl
      rw [hv] at ct
      rw [hv2] at HST
      clear hv hv2 hp
      generalize tr p = q at ct HST
      have hfr := own_free hown k
      go_wp2_with (go_at_call 84; refine (ct _).mono ?_; rintro e w4 ⟨rfl, hb4⟩; have hown4 := own_below hown hb4; have hc4 := (hb4.cell (p := ⟨g, k, none⟩) (World.block_lt_of_cell? _ _ hcp)).trans hcp; have hf4 := own_free hown4 k)
      have hset := own_set hown4 k (.string q)
      have hbl4 := (hbl.trans (hb4.mono hbl.size)).setCell (p := ⟨g, k, none⟩) hg0 (.string q)
      go_roundg (gk - 1)
      case measure => omega
      case rel => exact ⟨k + 1, by omega, by go_num, by rw [← HST.out]; exact hset, hbl4⟩
    · have hkn : k = n := by omega
      subst hkn
      have e0 : (P.take k).map trV ++ (P.drop k).map Value.string = (P.map tr).map Value.string := by
        rw [List.take_of_length_le (by rw [HN.out]; omega), List.drop_of_length_le (by rw [HN.out]; omega), List.map_nil, List.append_nil, List.map_map]
        rfl
      rw [e0] at hown
      clear e0
      have hQ : (P.map tr).length = k := by rw [List.length_map, HN.out]
      clear HPS HN
      obtain ⟨Q, hQd⟩ : ∃ Q, P.map tr = Q := ⟨_, rfl⟩
      rw [hQd] at hown hQ
      have HQ := Lib.hid hQd
      clear hQd
      obtain ⟨q, hq⟩ : ∃ q, Q[k - 1]? = some q := ⟨_, List.getElem?_eq_getElem (by omega)⟩
      have hcq := own_cell hown (j := k - 1) (u := .string q) (by rw [List.getElem?_map, hq]; rfl)
      have hcells := fun (j : Nat) u (hj : (Q.map Value.string)[j]? = some u) => own_cell hown hj
      have hgl := World.block_lt_of_cell? _ _ hcq
      simp only at hgl
      by_cases hk1 : 1 < k
      · by_cases hqe : q = ⟨#[]⟩
        · have e1 : dropEnd Q = Q.take (k - 1) := by
            rw [dropEnd, if_pos, hQ]
            rw [hQ, List.getD_eq_getElem?_getD, hq]
            exact ⟨hk1, hqe⟩
          have hl1 : (Q.take (k - 1)).length = k - 1 := by rw [List.length_take]; omega
          have HC := Lib.hid hcells
          have HD : Hid (∀ (j : Nat) u, ((Q.take (k - 1)).map Value.string)[j]? = some u → wr.cell? ⟨g, 0 + j, none⟩ = some u) := by
            intro j u hj
            rw [Nat.zero_add]
            refine HC.out j u ?_
            rw [List.map_take] at hj
            rw [List.getElem?_take] at hj
            split at hj
            · exact hj
            · cases hj
          have HL1 := Lib.hid hl1
          have H1 : Hid (∀ u ∈ (Q.take (k - 1)).map Value.string, u.oneCell' = true) := by
            intro u hu
            obtain ⟨_, _, rfl⟩ := List.mem_map.1 hu
            rfl
          subst hqe
          have E1 := Lib.hid e1
          clear hcells e1 hl1 HC hq hQ
          generalize (Q.take (k - 1)) = R at HD HL1 H1 E1
          obtain ⟨m, rfl⟩ : ∃ m, k = m + 1 := ⟨k - 1, by omega⟩
          simp only [Nat.add_sub_cancel] at HL1 hcq
          go_wp2_with (at_make; refine wpList_make1 _ rfl _ _ 27 rfl w.heap.size 9 (.string ⟨#[]⟩) 16 Tryz.underlying27 str_info rfl _ _ _ _ m rfl rfl (by omega) (by omega) (by omega) (by unfold maxLen; omega) (by have := hbl.size; omega) ?_)
          intro w5 hown5 hgr5
          have hb5 : Below wr.heap.size wr w5 := (Below.refl _ _).grown hgr5 (Nat.le_refl _) (fun k h => by cases h)
          have HD5 : Hid (∀ (j : Nat) u, (R.map Value.string)[j]? = some u → w5.cell? ⟨g, 0 + j, none⟩ = some u) := fun j u hj => (hb5.cell (p := ⟨g, 0 + j, none⟩) hgl).trans (HD.out j u hj)
          obtain ⟨w6, hcp, hown6, hgr6⟩ := own_copy (P := Tryz.prog) w5 27 3 w.heap.size 9 Tryz.underlying27 (by kernel_rfl) wr.heap.size m _ _ (R.map Value.string) hown5 g 0 (m + 1) (by rw [List.length_map]; exact HL1.out) HD5.out H1.out
          unfold goInt at hcp
          go_wp2
          go_ret2
          rw [HP.out, HQ.out, E1.out, HL1.out]
          exact ⟨_, rfl, hown6, (hbl.grown hgr5 hbl.size (fun k h => by cases h)).grown hgr6 (by have := hbl.size; have := hgr5.size; omega) (fun k h => by cases h; exact hbl.size)⟩
        · have e1 : dropEnd Q = Q := by
            rw [dropEnd, if_neg]
            rw [hQ, List.getD_eq_getElem?_getD, hq]
            exact fun h => hqe h.2
          have hne := ba_nonempty hqe
          have HD : Hid (∀ (j : Nat) u, (Q.map Value.string)[j]? = some u → wr.cell? ⟨g, 0 + j, none⟩ = some u) := by
            intro j u hj
            rw [Nat.zero_add]
            exact hcells j u hj
          have HL1 := Lib.hid hQ
          have H1 : Hid (∀ u ∈ Q.map Value.string, u.oneCell' = true) := by
            intro u hu
            obtain ⟨_, _, rfl⟩ := List.mem_map.1 hu
            rfl
          have E1 := Lib.hid e1
          clear hcells e1 hq hQ
          obtain ⟨R, hR⟩ : ∃ R, R = Q := ⟨Q, rfl⟩
          subst hR
          obtain ⟨m, rfl⟩ : ∃ m, k = m + 1 := ⟨k - 1, by omega⟩
          simp only [Nat.add_sub_cancel] at hcq
          go_wp2_with (at_make; refine wpList_make1 _ rfl _ _ 27 rfl w.heap.size 9 (.string ⟨#[]⟩) 16 Tryz.underlying27 str_info rfl _ _ _ _ (m + 1) rfl rfl (by omega) (by omega) (by omega) (by unfold maxLen; omega) (by have := hbl.size; omega) ?_)
          intro w5 hown5 hgr5
          have hb5 : Below wr.heap.size wr w5 := (Below.refl _ _).grown hgr5 (Nat.le_refl _) (fun k h => by cases h)
          have HD5 : Hid (∀ (j : Nat) u, (R.map Value.string)[j]? = some u → w5.cell? ⟨g, 0 + j, none⟩ = some u) := fun j u hj => (hb5.cell (p := ⟨g, 0 + j, none⟩) hgl).trans (HD.out j u hj)
          obtain ⟨w6, hcp, hown6, hgr6⟩ := own_copy (P := Tryz.prog) w5 27 3 w.heap.size 9 Tryz.underlying27 (by kernel_rfl) wr.heap.size (m + 1) _ _ (R.map Value.string) hown5 g 0 (m + 1) (by rw [List.length_map]; exact HL1.out) HD5.out H1.out
          unfold goInt at hcp
          go_wp2
          go_ret2
          rw [HP.out, HQ.out, E1.out, HL1.out]
          exact ⟨_, rfl, hown6, (hbl.grown hgr5 hbl.size (fun k h => by cases h)).grown hgr6 (by have := hbl.size; have := hgr5.size; omega) (fun k h => by cases h; exact hbl.size)⟩
      · have e1 : dropEnd Q = Q := by
          rw [dropEnd, if_neg]
          rw [hQ]
          exact fun h => hk1 h.1
        have HD : Hid (∀ (j : Nat) u, (Q.map Value.string)[j]? = some u → wr.cell? ⟨g, 0 + j, none⟩ = some u) := by
          intro j u hj
          rw [Nat.zero_add]
          exact hcells j u hj
        have HL1 := Lib.hid hQ
        have H1 : Hid (∀ u ∈ Q.map Value.string, u.oneCell' = true) := by
          intro u hu
          obtain ⟨_, _, rfl⟩ := List.mem_map.1 hu
          rfl
        have E1 := Lib.hid e1
        clear hcells e1 hq hQ
        obtain ⟨R, hR⟩ : ∃ R, R = Q := ⟨Q, rfl⟩
        subst hR
        go_wp2_with (at_make; refine wpList_make1 _ rfl _ _ 27 rfl w.heap.size 9 (.string ⟨#[]⟩) 16 Tryz.underlying27 str_info rfl _ _ _ _ k rfl rfl (by omega) (by omega) (by omega) (by unfold maxLen; omega) (by have := hbl.size; omega) ?_)
        intro w5 hown5 hgr5
        have hb5 : Below wr.heap.size wr w5 := (Below.refl _ _).grown hgr5 (Nat.le_refl _) (fun k h => by cases h)
        have HD5 : Hid (∀ (j : Nat) u, (R.map Value.string)[j]? = some u → w5.cell? ⟨g, 0 + j, none⟩ = some u) := fun j u hj => (hb5.cell (p := ⟨g, 0 + j, none⟩) hgl).trans (HD.out j u hj)
        obtain ⟨w6, hcp, hown6, hgr6⟩ := own_copy (P := Tryz.prog) w5 27 3 w.heap.size 9 Tryz.underlying27 (by kernel_rfl) wr.heap.size k _ _ (R.map Value.string) hown5 g 0 k (by rw [List.length_map]; exact HL1.out) HD5.out H1.out
        unfold goInt at hcp
        go_wp2
        go_ret2
        rw [HP.out, HQ.out, E1.out, HL1.out]
        exact ⟨_, rfl, hown6, (hbl.grown hgr5 hbl.size (fun k h => by cases h)).grown hgr6 (by have := hbl.size; have := hgr5.size; omega) (fun k h => by cases h; exact hbl.size)⟩
end Go.Proofs.YtkfffoolpdilnaaGreatDoor
