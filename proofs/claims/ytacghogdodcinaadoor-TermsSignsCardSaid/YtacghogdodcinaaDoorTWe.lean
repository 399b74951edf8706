/-
  Walks: the law TermsTexts.
-/
import Derived.Test.YtacghogdodcinaaDoorTWd
namespace Go.Proofs.YtacghogdodcinaaDoor
open Go.RowKit Go.Bd
theorem textV_form (la lb lc : Bs) : ∃ (x : ByteArray) (e : Int), textV la lb lc = .tuple #[.string x, .int .i64 e] := by
  unfold textV
  split
  · exact ⟨_, _, rfl⟩
  · exact ⟨_, _, rfl⟩
theorem three_cells {w : World} (a b c : Nat) : ∀ (j x : Nat), ([a, b, c] : List Nat)[j]? = some x → (w.alloc (.cells #[.int .i64 a, .int .i64 b, .int .i64 c] 3)).cell? ⟨w.heap.size, j, none⟩ = some (.int .i64 x) := by
  intro j x hj
  rw [World.cell?_alloc_at _ _ _ _ rfl]
  match j, hj with
  | 0, hj => simp at hj; subst hj; rfl
  | 1, hj => simp at hj; subst hj; rfl
  | 2, hj => simp at hj; subst hj; rfl
  | n + 3, hj => simp at hj
theorem in_three {a b c N : Nat} (ha : a ≤ N) (hb : b ≤ N) (hc : c ≤ N) : ∀ x ∈ ([a, b, c] : List Nat), x ≤ N := by
  intro x hx
  simp at hx
  rcases hx with rfl | rfl | rfl <;> assumption
set_option maxHeartbeats 1000000 in
theorem termsTexts_any (a b c : ByteArray) (m : Int) (w : World) (hm : w.cell? ⟨0, 0, none⟩ = some (.int .i64 m)) (ha : a.size ≤ 140737488355328) (hb : b.size ≤ 140737488355328) (hc : c.size ≤ 140737488355328) :
    Calls Tryd.prog 3 #[.string a, .string b, .string c] w fun e w' => e = .returned (.bool true) ∧ Below w.heap.size w w' := by
  have hw0 := block_lt_of_cell hm
  have B := beyond_any w.heap.size [a.size, b.size, c.size] (w.alloc (.cells #[.int .i64 a.size, .int .i64 b.size, .int .i64 c.size] 3)) (by simp) (in_three ha hb hc) (three_cells _ _ _)
  have hb1 : Below w.heap.size w (w.alloc (.cells #[.int .i64 a.size, .int .i64 b.size, .int .i64 c.size] 3)) := (Below.refl _ _).alloc (Nat.le_refl _) _
  have hs1 : w.heap.size < (w.alloc (.cells #[.int .i64 a.size, .int .i64 b.size, .int .i64 c.size] 3)).heap.size := by simp
  have hsum : ([a.size, b.size, c.size] : List Nat).sum = a.size + b.size + c.size := by simp; omega
  rw [hsum] at B
  clear hsum
  change Calls _ _ #[.slice _ 3 3] _ _ at B
  by_cases hbig : 1048576 < a.size + b.size + c.size
  · rw [decide_eq_true hbig] at B
    go_enter Tryd.func3, Tryd.ntmps3
    go_wp2_with (go_at_call 9; refine B.mono ?_; rintro e w' ⟨rfl, rfl⟩)
    go_ret
    exact ⟨rfl, hb1⟩
  · rw [decide_eq_false hbig] at B
    obtain ⟨x, q, hxq⟩ := textV_form a.data.toList b.data.toList c.data.toList
    have T1 := fun w1 h1 => Text_any a b c w1 m h1 ha hb hc
    have T2 := fun w1 => refText_any a b c w1 ha hb hc
    have K1 := fun w1 => key_any a w1 ha
    have K2 := fun w1 => refKey_any a w1 ha
    rw [hxq] at T1 T2
    clear hxq
    obtain ⟨k, hk⟩ : ∃ k : ByteArray, strV (key a.data.toList) = .string k := ⟨_, rfl⟩
    rw [hk] at K1 K2
    clear hk
    go_enter Tryd.func3, Tryd.ntmps3
    go_wp2_with (go_at_call 9; refine B.mono ?_; rintro e w' ⟨rfl, rfl⟩)
    refine (T1 _ ((hb1.cell (p := ⟨0, 0, none⟩) hw0).trans hm)).mono ?_
    rintro e w2 ⟨rfl, hb2⟩
    have hb3 := hb1.trans (hb2.mono (Nat.le_of_lt hs1))
    clear B hb2
    go_wp2_with (first
      | (go_at_call 11; refine (T2 _).mono ?_; rintro e w' ⟨rfl, rfl⟩)
      | (go_at_call 12; refine (K1 _).mono ?_; rintro e w4 ⟨rfl, hb4⟩)
      | (go_at_call 13; refine (K2 _).mono ?_; rintro e w5 ⟨rfl, hb5⟩))
    go_ret
    exact ⟨rfl, (hb3.trans (hb4.mono hb3.size)).trans (hb5.mono (Nat.le_trans hb3.size hb4.size))⟩
end Go.Proofs.YtacghogdodcinaaDoor
