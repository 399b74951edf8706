/-
  The law TablesRows: its walk.
-/
import Derived.Test.YtkfffoolpdilnaaGreatDoorRrow
import Derived.Test.YtkfffoolpdilnaaGreatDoorRbook
import Derived.Test.YtkfffoolpdilnaaGreatDoorGB
import Derived.Test.YtkfffoolpdilnaaGreatDoorGH
namespace Go.Proofs.YtkfffoolpdilnaaGreatDoor
open Go.RowKit Go.Bd
/-- a line's cells, or none -/
def rowR (s : ByteArray) : List ByteArray := if beginsB s = true then rowOf s else []
/-- 0, or why it was refused -/
def rowE (s : ByteArray) : Int := if beginsB s = true then 0 else 4
theorem row_any (s : ByteArray) (w : World) (m : Int) (hm : w.cell? ⟨0, 0, none⟩ = some (.int .i64 m)) (hs : s.size ≤ 2147483647) :
    Calls Tryz.prog 18 #[.string s] w fun e w' => ∃ v, e = .returned (.tuple #[v, .int .i64 (rowE s)]) ∧ w'.ownsRow w.heap.size 9 1 v (rowR s).length ((rowR s).map Value.string) ∧ Below w.heap.size w w' := by
  unfold rowE rowR
  by_cases hb : beginsB s = true
  · rw [if_pos hb, if_pos hb]
    exact row_some s w m hm hs hb
  · rw [if_neg hb, if_neg hb]
    refine (row_none s w hs (by simpa using hb)).mono ?_
    rintro e w' ⟨rfl, h⟩
    exact ⟨_, rfl, World.ownsRow_nil _ _ _ _, h⟩
theorem refRow_any (s : ByteArray) (w : World) (hs : s.size ≤ 2147483647) :
    Calls Tryz.prog 19 #[.string s] w fun e w' => ∃ v, e = .returned (.tuple #[v, .int .i64 (rowE s)]) ∧ Texts w' w'.heap.size v (rowR s) ∧ Below w.heap.size w w' := by
  unfold rowE rowR
  by_cases hb : beginsB s = true
  · rw [if_pos hb, if_pos hb]
    exact refRow_some s w hs hb
  · rw [if_neg hb, if_neg hb]
    refine (refRow_none s w hs (by simpa using hb)).mono ?_
    rintro e w' ⟨rfl, h⟩
    exact ⟨_, rfl, Rd.nil _ _, h⟩
theorem rowR_len (s : ByteArray) : (rowR s).length ≤ s.size + 1 := by
  unfold rowR
  split
  · unfold rowOf
    have h1 := dropEnd_length ((pieces ⟨(Lib.trimPrefix (trim s.data.toList) [124]).toArray⟩).map tr)
    have h2 := pieces_length ⟨(Lib.trimPrefix (trim s.data.toList) [124]).toArray⟩
    have h3 := Lib.countB_le bar (by decide) _ ⟨(Lib.trimPrefix (trim s.data.toList) [124]).toArray⟩ (Nat.le_refl _)
    have h4 : (Lib.trimPrefix (trim s.data.toList) [124]).length ≤ (trim s.data.toList).length := by
      unfold Lib.trimPrefix; split <;> simp
    have h5 := trim_le s.data.toList
    rw [size_mk] at h3
    rw [List.length_map] at h1
    rw [size_list]
    omega
  · simp
set_option maxRecDepth 100000 in
set_option maxHeartbeats 2000000 in
theorem tablesRows_any (s : ByteArray) (m : Int) (w : World) (hm : w.cell? ⟨0, 0, none⟩ = some (.int .i64 m)) (ht : Tab w) (hs : s.size ≤ 140737488355328) :
    Calls Tryz.prog 4 #[.string s] w fun e w' => e = .returned (.bool true) ∧ Below w.heap.size w w' := by
  have hw0 : 0 < w.heap.size := World.block_lt_of_cell? w _ hm
  have k := fun (W : World) (h : Below w.heap.size w W) => (h.cell (p := ⟨0, 0, none⟩) hw0).trans hm
  have B := fun W => beyond_one s.size W hs
  by_cases hbig : 1048576 < s.size
  · rw [decide_eq_true hbig] at B
    clear k ht hm
    go_enter Tryz.func4, Tryz.ntmps4
    go_wp2_with (go_at_call 17; refine (B _).mono ?_; rintro e w' ⟨rfl, rfl⟩)
    go_ret
    exact ⟨rfl, (Below.refl _ _).alloc (Nat.le_refl _) _⟩
  · rw [decide_eq_false hbig] at B
    have P1 := fun W h => row_any s W m h (by omega)
    have P2 := fun W => refRow_any s W (by omega)
    have hRl := rowR_len s
    generalize rowR s = R at P1 P2 hRl
    generalize rowE s = E at P1 P2
    have K := Lib.hid k
    have HT := Lib.hid ht
    clear k ht hm
    have HP1 := Lib.hid P1
    have HP2 := Lib.hid P2
    clear P1 P2
    go_enter Tryz.func4, Tryz.ntmps4
    go_wp2_with (go_at_call 17; refine (B _).mono ?_; rintro e w' ⟨rfl, rfl⟩)
    clear B
    have hb0 : Below w.heap.size w (w.alloc (.cells #[.int .i64 s.size] 3)) := (Below.refl _ _).alloc (Nat.le_refl _) _
    refine (HP1.out _ (K.out _ hb0)).mono ?_
    rintro e w1 ⟨va, rfl, hoa, hb1⟩
    replace hb1 := hb0.trans (hb1.mono hb0.size)
    replace hoa := own_mono hoa hb0.size
    have H1 := Lib.hid (And.intro hoa hb1)
    have s01 : w.heap.size ≤ w1.heap.size := hb1.size
    clear hb0 hoa hb1
    go_wp2_with fail
    refine (HP1.out _ (K.out _ H1.out.2)).mono ?_
    rintro e w2 ⟨vb, rfl, hob, hb2⟩
    have H2 := Lib.hid (And.intro (own_below H1.out.1 hb2) (And.intro hob (And.intro (H1.out.2.trans (hb2.mono H1.out.2.size)) (And.intro hb2.size (fun b hb => H1.out.1.lt b hb)))))
    clear hob hb2 H1
    go_wp2_with fail
    refine (HP2.out _).mono ?_
    rintro e w3 ⟨vc, rfl, hoc, hb3⟩
    have H3 := Lib.hid (And.intro (own_below H2.out.1 hb3) (And.intro (own_below H2.out.2.1 hb3) (And.intro (H2.out.2.2.1.trans (hb3.mono H2.out.2.2.1.size)) (And.intro H2.out.2.2.2 (And.intro hoc hb3.size)))))
    clear hoc hb3 H2
    go_wp2_with fail
    refine (sameTexts_any va vc R R w3 w3.heap.size (own_rd H3.out.1) H3.out.2.2.2.2.1 (by omega) (by omega)).mono ?_
    rintro e w4 ⟨rfl, hb4⟩
    rw [decide_eq_true rfl]
    have H4 := Lib.hid (And.intro (own_below H3.out.1 hb4) (And.intro (own_below H3.out.2.1 hb4) (And.intro (H3.out.2.2.1.trans (hb4.mono H3.out.2.2.1.size)) (And.intro H3.out.2.2.2.1 (And.intro ((H3.out.2.2.2.2.1.below hb4).more hb4.size) (Nat.le_trans H3.out.2.2.2.2.2 hb4.size))))))
    clear hb4 H3
    go_wp2_with fail
    refine (sameTexts_any vb vc R R w4 w4.heap.size (own_rd H4.out.2.1) H4.out.2.2.2.2.1 (by omega) (by omega)).mono ?_
    rintro e w5 ⟨rfl, hb5⟩
    rw [decide_eq_true rfl]
    have H5 := Lib.hid (And.intro (own_below H4.out.1 hb5) (And.intro (own_below H4.out.2.1 hb5) (And.intro (H4.out.2.2.1.trans (hb5.mono H4.out.2.2.1.size)) (And.intro H4.out.2.2.2.1 (Nat.le_trans H4.out.2.2.2.2.2 hb5.size)))))
    clear hb5 H4
    obtain ⟨aA, aC, rfl, _⟩ := own_slice H5.out.1
    obtain ⟨bA, bC, rfl, _⟩ := own_slice H5.out.2.1
    go_wp2_with fail
    have htl := HT.out.lt
    have hb6 : Below w.heap.size w (w5.alloc (.cells bookCells 50)) := H5.out.2.2.1.alloc H5.out.2.2.1.size _
    have T5 := tx_new hb6 (Nat.le_refl _) (HT.out.below hb6 htl) htl H5.out.2.2.1.size (Holds.new w5 _ _) rfl
    have ga : ∀ b, (Value.slice aA R.length aC).ownBlock = some b → b < w1.heap.size := fun b hb => (H5.out.2.2.2.1.2 b hb).2
    have gb : ∀ b, (Value.slice bA R.length bC).ownBlock = some b → w1.heap.size ≤ b ∧ b < w5.heap.size := fun b hb => H5.out.2.1.lt b hb
    have s15 : w1.heap.size ≤ w5.heap.size := Nat.le_trans H5.out.2.2.2.1.1 H5.out.2.2.2.2
    have oa6 := (Chg.refl w5 (fun _ => False)).alloc (.cells bookCells 50) |>.owns H5.out.1 (fun _ _ h => h)
    have ob6 := (Chg.refl w5 (fun _ => False)).alloc (.cells bookCells 50) |>.owns H5.out.2.1 (fun _ _ h => h)
    refine (texts_any T5 (n := 0) rfl (by omega) aA R.length aC (fun _ _ _ h => by simp at h) (fun b hb => ⟨by have := ga b hb; simp; omega, by have := ga b hb; omega, (by intro h; cases h), rfl, fun _ _ h => by simp at h⟩) (by simp) (by omega)).mono ?_
    rintro e w6 ⟨rfl, A6, c6, T6, C6, L6⟩
    have oa7 := C6.owns oa6 (fun b hb h => by have := ga b hb; rcases h with h | h; omega; cases h)
    have ob7 := C6.owns ob6 (fun b hb h => by have := gb b hb; rcases h with h | h; omega; cases h)
    have s56 : w5.heap.size + 1 ≤ w6.heap.size := by have := C6.size; simpa using this
    have l6 : ∀ b, (Value.slice A6 1 c6).ownBlock = some b → w5.heap.size + 1 ≤ b := fun b hb => by
      rcases L6 b hb with h | h
      · cases h
      · simpa using h
    have H6 := Lib.hid (And.intro T6 (And.intro oa7 (And.intro ob7 (And.intro ga (And.intro gb (And.intro l6 (And.intro s15 s56)))))))
    clear T5 hb6 oa6 ob6 T6 C6 L6 oa7 ob7 ga gb l6 H5
    go_wp2_with fail
    have T6 := H6.out.1
    obtain ⟨_, oa, ob, ga, gb, l6, _, _⟩ := H6.out
    refine (texts_any T6 (n := 1) rfl (by omega) bA R.length bC (fun i f b hf hb => ?_) (fun b hb => ⟨by have := gb b hb; omega, by have := gb b hb; omega, fun h => by have := gb b hb; have := l6 b h; omega, rfl, fun i f hf h => ?_⟩) (by simp) (by omega)).mono ?_
    · match i, hf with
      | 0, hf =>
        simp at hf
        subst hf
        have := ga b hb
        omega
      | i + 1, hf => simp at hf
    · match i, hf with
      | 0, hf =>
        simp at hf
        subst hf
        have := ga b h
        have := gb b hb
        omega
      | i + 1, hf => simp at hf
    rintro e w7 ⟨rfl, A7, c7, T7, C7, L7⟩
    have oa8 := C7.owns oa (fun b hb h => by
      have := ga b hb
      rcases h with h | h
      · omega
      · have := l6 b h.symm; omega)
    have ob8 := C7.owns ob (fun b hb h => by
      have := gb b hb
      rcases h with h | h
      · omega
      · have := l6 b h.symm; omega)
    have hfl : Fl w.heap.size w7 ([] ++ [⟨.slice aA R.length aC, .slice none 0 0, 0 + 1, R.length⟩] ++ [⟨.slice bA R.length bC, .slice none 0 0, 1 + 1, R.length⟩]) 0 := fun j e he => by
      match j, he with
      | 0, he =>
        simp at he
        subst he
        exact ⟨_, oa8, fun h => absurd h (by omega)⟩
      | 1, he =>
        simp at he
        subst he
        exact ⟨_, own_mono ob8 s01, fun h => absurd h (by omega)⟩
      | j + 2, he => simp at he
    have H7 := Lib.hid (And.intro T7 hfl)
    clear H6 T6 T7 C7 L7 hfl oa ob ga gb l6 oa8 ob8
    go_wp2_with fail
    refine (apart_texts H7.out.1 H7.out.2 rfl ?_ (fun i e he => ?_)).mono ?_
    · intro i hi
      have : i = 1 ∨ i = 4 ∨ i = 5 ∨ i = 6 ∨ i = 7 ∨ i = 8 ∨ i = 9 ∨ i = 10 ∨ i = 11 ∨ i = 12 ∨ i = 13 ∨ i = 14 ∨ i = 15 ∨ i = 16 ∨ i = 17 := by omega
      rcases this with rfl | rfl | rfl | rfl | rfl | rfl | rfl | rfl | rfl | rfl | rfl | rfl | rfl | rfl | rfl <;> rfl
    · match i, he with
      | 0, he => simp at he; subst he; rfl
      | 1, he => simp at he; subst he; rfl
      | i + 2, he => simp at he
    rintro e w8 ⟨rfl, hb8⟩
    have H8 := Lib.hid hb8
    clear hb8 H7
    go_wp2
    go_ret
    exact ⟨rfl, H8.out⟩
end Go.Proofs.YtkfffoolpdilnaaGreatDoor
