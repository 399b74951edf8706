/-
  Walks: the law TermsAgain.
-/
import Derived.Test.YtacghogdodcinaaDoorTWf
namespace Go.Proofs.YtacghogdodcinaaDoor
open Go.RowKit Go.Bd
theorem one_cell {w : World} (a : Nat) : ∀ (j x : Nat), ([a] : List Nat)[j]? = some x → (w.alloc (.cells #[.int .i64 a] 3)).cell? ⟨w.heap.size, j, none⟩ = some (.int .i64 x) := by
  intro j x hj
  rw [World.cell?_alloc_at _ _ _ _ rfl]
  match j, hj with
  | 0, hj => simp at hj; subst hj; rfl
  | n + 1, hj => simp at hj
theorem beyond_one (a : Nat) (w : World) (ha : a ≤ 140737488355328) :
    Calls Tryd.prog 9 #[.slice (some ⟨w.heap.size, 0, none⟩) 1 1] (w.alloc (.cells #[.int .i64 a] 3)) fun e w' => e = .returned (.bool (decide (1048576 < a))) ∧ (w.alloc (.cells #[.int .i64 a] 3)) = w' := by
  have B := beyond_any w.heap.size [a] (w.alloc (.cells #[.int .i64 a] 3)) (by simp) (by simpa using ha) (one_cell _)
  have hsum : ([a] : List Nat).sum = a := by simp
  rw [hsum] at B
  exact B
theorem beyond_three (a b c : Nat) (w : World) (ha : a ≤ 140737488355328) (hb : b ≤ 140737488355328) (hc : c ≤ 140737488355328) :
    Calls Tryd.prog 9 #[.slice (some ⟨w.heap.size, 0, none⟩) 3 3] (w.alloc (.cells #[.int .i64 a, .int .i64 b, .int .i64 c] 3)) fun e w' => e = .returned (.bool (decide (1048576 < a + b + c))) ∧ (w.alloc (.cells #[.int .i64 a, .int .i64 b, .int .i64 c] 3)) = w' := by
  have B := beyond_any w.heap.size [a, b, c] (w.alloc (.cells #[.int .i64 a, .int .i64 b, .int .i64 c] 3)) (by simp) (in_three ha hb hc) (three_cells _ _ _)
  have hsum : ([a, b, c] : List Nat).sum = a + b + c := by simp; omega
  rw [hsum] at B
  exact B
set_option maxHeartbeats 2000000 in
theorem termsAgain_any (s : ByteArray) (m : Int) (w : World) (hm : w.cell? ⟨0, 0, none⟩ = some (.int .i64 m)) (hs : s.size ≤ 140737488355328) :
    Calls Tryd.prog 5 #[.string s] w fun e w' => e = .returned (.bool true) ∧ Below w.heap.size w w' := by
  have hw0 := block_lt_of_cell hm
  have k := fun {W : World} (h : Below w.heap.size w W) => (h.cell (p := ⟨0, 0, none⟩) hw0).trans hm
  by_cases hbig : 1048576 < s.size
  · have B := fun W => beyond_one s.size W hs
    rw [decide_eq_true hbig] at B
    go_enter Tryd.func5, Tryd.ntmps5
    go_wp2_with fail
    refine (alive_any m w hm).mono ?_
    rintro e w1 ⟨rfl, hb⟩
    go_wp2_with (go_at_call 9; refine (B _).mono ?_; rintro e w' ⟨rfl, rfl⟩)
    replace hb := hb.alloc hb.size (.cells #[.int .i64 s.size] 3)
    refine (alive_any m _ (k hb)).mono ?_
    rintro e w2 ⟨rfl, hb2⟩
    go_wp2
    go_ret
    exact ⟨rfl, hb.trans (hb2.mono hb.size)⟩
  · have B := fun W => beyond_one s.size W hs
    rw [decide_eq_false hbig] at B
    have P1 := fun W h => Parse_any s m W (by omega) h
    cases hp : parseB s.data.toList with
    | none =>
      rw [parseV_none hp, strV] at P1
      clear hp
      go_enter Tryd.func5, Tryd.ntmps5
      go_wp2_with fail
      refine (alive_any m w hm).mono ?_
      rintro e w1 ⟨rfl, hb⟩
      go_wp2_with (go_at_call 9; refine (B _).mono ?_; rintro e w' ⟨rfl, rfl⟩)
      replace hb := hb.alloc hb.size (.cells #[.int .i64 s.size] 3)
      refine (P1 _ (k hb)).mono ?_
      rintro e w2 ⟨rfl, hb2⟩
      go_wp2
      go_ret
      exact ⟨rfl, hb.trans (hb2.mono hb.size)⟩
    | some t =>
      obtain ⟨a, b, c⟩ := t
      obtain ⟨h1, h2, h3, h4, h5⟩ := told_again hp
      rw [parseV_some hp, strV, strV, strV] at P1
      clear hp
      have hla : a.length ≤ 240 ∧ b.length ≤ 240 ∧ c.length ≤ 240 := by
        have : (textL a b c).length ≤ 240 := Nat.le_trans h2 h5
        unfold textL at this
        simp only [List.length_append] at this
        refine ⟨by omega, ?_, ?_⟩
        · by_cases e : b = []
          · rw [e]; simp
          · rw [if_neg e] at this; simp only [List.length_cons] at this; omega
        · by_cases e : c = []
          · rw [e]; simp
          · rw [if_neg e] at this; simp only [List.length_cons] at this; omega
      obtain ⟨la, lb, lc⟩ := hla
      have T1 := fun W h => Text_any ⟨a.toArray⟩ ⟨b.toArray⟩ ⟨c.toArray⟩ W m h (by rw [size_mk]; omega) (by rw [size_mk]; omega) (by rw [size_mk]; omega)
      have et : textV (ByteArray.mk a.toArray).data.toList (ByteArray.mk b.toArray).data.toList (ByteArray.mk c.toArray).data.toList = .tuple #[strV (textL a b c), .int .i64 0] := by
        show textV a b c = _
        rw [textV, if_pos h1]
      rw [et] at T1
      clear et
      have h2' : (textL a b c).length ≤ s.size := by simpa using h2
      have h5' : s.size ≤ 240 := by simpa using h5
      clear h2 h5
      generalize textL a b c = tl at h1 h2' T1
      have P2 := fun W h => Parse_any ⟨tl.toArray⟩ m W (by rw [size_mk]; omega) h
      have ep : parseV (ByteArray.mk tl.toArray).data.toList = .tuple #[strV a, strV b, strV c, .int .i64 0] := by
        exact parseV_some h1
      rw [ep] at P2
      clear ep h1
      rw [strV] at T1
      rw [strV, strV, strV] at P2
      have e1 : a.isEmpty = false := by simpa using h3
      have e2 : (b.isEmpty || c.isEmpty) = true := by rcases h4 with rfl | rfl <;> simp
      go_enter Tryd.func5, Tryd.ntmps5
      go_wp2_with fail
      refine (alive_any m w hm).mono ?_
      rintro e w1 ⟨rfl, hb⟩
      go_wp2_with (go_at_call 9; refine (B _).mono ?_; rintro e w' ⟨rfl, rfl⟩)
      replace hb := hb.alloc hb.size (.cells #[.int .i64 s.size] 3)
      refine (P1 _ (k hb)).mono ?_
      rintro e w2 ⟨rfl, hb2⟩
      replace hb2 := hb.trans (hb2.mono hb.size)
      clear hb P1 B
      go_wp2_with fail
      refine (T1 _ (k hb2)).mono ?_
      rintro e w3 ⟨rfl, hb3⟩
      replace hb3 := hb2.trans (hb3.mono hb2.size)
      clear hb2 T1
      go_wp2_with fail
      refine (P2 _ (k hb3)).mono ?_
      rintro e w4 ⟨rfl, hb4⟩
      replace hb4 := hb3.trans (hb4.mono hb3.size)
      clear hb3 P2
      go_wp2
      all_goals
        go_ret
        exact ⟨ret_bool (decide_eq_true (by omega)), hb4⟩
end Go.Proofs.YtacghogdodcinaaDoor
