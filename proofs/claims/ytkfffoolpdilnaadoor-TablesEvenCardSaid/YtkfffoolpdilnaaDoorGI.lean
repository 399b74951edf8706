/-
  Walks: some answers that the document fixes.
-/
import Derived.Test.YtkfffoolpdilnaaDoorGB
import Derived.Test.YtkfffoolpdilnaaDoorGE
import Derived.Test.YtkfffoolpdilnaaDoorGF
import Derived.Test.YtkfffoolpdilnaaDoorGH
namespace Go.Proofs.YtkfffoolpdilnaaDoor
open Go.RowKit Go.Bd
def baA : ByteArray := ⟨#[124, 32, 97, 32, 124, 32, 98, 32, 99, 32, 124]⟩
theorem row1 : rowOf baA = [⟨#[97]⟩, ⟨#[98, 32, 99]⟩] := by decide +kernel
theorem row2 : rowOf ⟨#[124]⟩ = [⟨#[]⟩] := by decide +kernel
theorem begins1 : beginsB baA = true := by decide +kernel
theorem begins2 : beginsB ⟨#[124]⟩ = true := by decide +kernel
theorem begins3 : beginsB ⟨#[97]⟩ = false := by decide +kernel
def gridA : List (List ByteArray) := [[⟨#[97]⟩, ⟨#[98, 98]⟩], [⟨#[99, 99, 99]⟩, ⟨#[100]⟩]]
def gridB : List (List ByteArray) := [[⟨#[97]⟩, ⟨#[98, 98]⟩], [⟨#[195, 169]⟩]]
theorem lines1 : linesOf gridA = [⟨#[97, 32, 32, 32, 124, 32, 98, 98]⟩, ⟨#[99, 99, 99, 32, 124, 32, 100]⟩] := by decide +kernel
theorem wid1 : wid gridB = [1, 2] := by decide +kernel
theorem alloc_size (w : World) (o : Obj) : (w.alloc o).heap.size = w.heap.size + 1 := by simp
theorem rd_lit (w : World) (t : TypeId) (xs : List Value) (h : xs.length ≤ maxLen) : Rd (w.alloc (.cells xs.toArray t)) (w.heap.size + 1) (.slice (some ⟨w.heap.size, 0, none⟩) xs.length xs.length) xs := by
  have := own_rd (own_lit w t xs h)
  simpa using this
theorem texts_lit (w : World) (t : TypeId) (xs : List ByteArray) (h : xs.length ≤ maxLen) : Texts (w.alloc (.cells (xs.map Value.string).toArray t)) (w.heap.size + 1) (.slice (some ⟨w.heap.size, 0, none⟩) xs.length xs.length) xs := by
  have := rd_lit w t (xs.map Value.string) (by simpa using h)
  simpa [Texts] using this
theorem grid_lit2 (w : World) (t u : TypeId) (a b : List ByteArray) (ha : a.length ≤ maxLen) (hb : b.length ≤ maxLen) :
    Grid (((w.alloc (.cells (a.map Value.string).toArray t)).alloc (.cells (b.map Value.string).toArray t)).alloc (.cells #[.slice (some ⟨w.heap.size, 0, none⟩) a.length a.length, .slice (some ⟨w.heap.size + 1, 0, none⟩) b.length b.length] u))
      (w.heap.size + 3) (.slice (some ⟨w.heap.size + 2, 0, none⟩) 2 2) [a, b] := by
  have h1 := texts_lit w t a ha
  have h2 := texts_lit (w.alloc (.cells (a.map Value.string).toArray t)) t b hb
  have h3 := rd_lit ((w.alloc (.cells (a.map Value.string).toArray t)).alloc (.cells (b.map Value.string).toArray t)) u [.slice (some ⟨w.heap.size, 0, none⟩) a.length a.length, .slice (some ⟨w.heap.size + 1, 0, none⟩) b.length b.length] (by simp [maxLen])
  simp only [alloc_size] at h2 h3
  refine ⟨_, h3, rfl, fun j r hj => ?_⟩
  match j, hj with
  | 0, hj =>
    simp at hj; subst hj
    refine ⟨_, rfl, ?_⟩
    exact ((h1.below (((Below.refl _ _).alloc (by simp) _).alloc (by simp) _))).more (by omega)
  | 1, hj =>
    simp at hj; subst hj
    refine ⟨_, rfl, ?_⟩
    exact (h2.below ((Below.refl _ _).alloc (by simp) _)).more (by omega)
set_option maxRecDepth 100000 in
set_option maxHeartbeats 1000000 in
theorem alive_any (m : Int) (w : World) (hm : w.cell? ⟨0, 0, none⟩ = some (.int .i64 m)) :
    Calls Tryd.prog 8 #[] w fun e w' => e = .returned (.bool true) ∧ Below w.heap.size w w' := by
  have hmg : 0 < w.heap.size := World.block_lt_of_cell? w _ hm
  go_enter Tryd.func8, Tryd.ntmps8
  go_wp2_with fail
  have c1 := row_some baA w m hm (by decide) begins1
  rw [row1] at c1
  refine c1.mono ?_
  clear c1
  rintro e w1 ⟨v1, rfl, ho1, hb1⟩
  go_wp2_with fail
  have c2 := row_some ⟨#[124]⟩ w1 m ((hb1.cell (p := ⟨0, 0, none⟩) hmg).trans hm) (by decide) begins2
  rw [row2] at c2
  refine c2.mono ?_
  clear c2
  rintro e w2 ⟨v2, rfl, ho2, hb2⟩
  go_wp2_with fail
  have c3 := row_none ⟨#[97]⟩ w2 (by decide) begins3
  refine c3.mono ?_
  clear c3
  rintro e w3 ⟨rfl, hb3⟩
  go_wp2_with fail
  have hG := grid_lit2 w3 9 25 [⟨#[97]⟩, ⟨#[98, 98]⟩] [⟨#[99, 99, 99]⟩, ⟨#[100]⟩] (by decide) (by decide)
  have hb4 : Below w3.heap.size w3 (((w3.alloc (.cells #[.string ⟨#[97]⟩, .string ⟨#[98, 98]⟩] 9)).alloc (.cells #[.string ⟨#[99, 99, 99]⟩, .string ⟨#[100]⟩] 9)).alloc (.cells #[.slice (some ⟨w3.heap.size, 0, none⟩) 2 2, .slice (some ⟨w3.heap.size + 1, 0, none⟩) 2 2] 25)) :=
    (((Below.refl _ _).alloc (Nat.le_refl _) _).alloc (by simp) _).alloc (by simp; omega) _
  have c4 := lines_any _ gridA _ _ hG (by simp [alloc_size]) (by decide) (by decide +kernel) (by decide +kernel)
  rw [lines1] at c4
  refine c4.mono ?_
  clear c4 hG
  rintro e w4 ⟨v4, rfl, ho4, hb5⟩
  replace hb5 := hb4.trans (hb5.mono hb4.size)
  clear hb4
  have ho1' := own_below ho1 (hb2.trans (hb3.mono hb2.size))
  have ho2' := own_below ho2 hb3
  replace ho1' := own_below ho1' hb5
  replace ho2' := own_below ho2' hb5
  have hbw : Below w.heap.size w w4 := ((hb1.trans (hb2.mono hb1.size)).trans (hb3.mono (hb1.trans (hb2.mono hb1.size)).size)).trans (hb5.mono ((hb1.trans (hb2.mono hb1.size)).trans (hb3.mono (hb1.trans (hb2.mono hb1.size)).size)).size)
  have hR1 := own_rd ho1'
  have hR2 := own_rd ho2'
  obtain ⟨g2, cap2, rfl, _, _, _⟩ := own_some ho2' (by decide)
  have hc2 := own_cell ho2' (j := 0) (u := .string ⟨#[]⟩) rfl
  have hbw4 := hbw
  simp only [List.length_cons, List.length_nil] at hR1 ho4
  go_wp2_with fail
  have c5 := sameTexts_any v1 (.slice (some ⟨w4.heap.size, 0, none⟩) 2 2) [⟨#[97]⟩, ⟨#[98, 32, 99]⟩] [⟨#[97]⟩, ⟨#[98, 32, 99]⟩] _ (w4.heap.size + 1) ((hR1.below ((Below.refl _ _).alloc (Nat.le_refl _) _)).more (by omega)) (texts_lit w4 9 [⟨#[97]⟩, ⟨#[98, 32, 99]⟩] (by decide)) (by decide) (by decide)
  rw [decide_eq_true rfl] at c5
  refine c5.mono ?_
  clear c5
  rintro e w5 ⟨rfl, hb6d⟩
  have hb6 : Below w4.heap.size w4 w5 := ((Below.refl _ _).alloc (Nat.le_refl _) _).trans (hb6d.mono (by simp))
  have hc5 := (hb6.cell (p := ⟨g2, 0, none⟩) (by omega)).trans hc2
  have ho5 := own_below ho4 hb6
  have hR5 := own_rd ho5
  replace hbw := hbw.trans (hb6.mono hbw.size)
  go_wp2_with fail
  have c6 := sameTexts_any v4 (.slice (some ⟨w5.heap.size, 0, none⟩) 2 2) [⟨#[97, 32, 32, 32, 124, 32, 98, 98]⟩, ⟨#[99, 99, 99, 32, 124, 32, 100]⟩] [⟨#[97, 32, 32, 32, 124, 32, 98, 98]⟩, ⟨#[99, 99, 99, 32, 124, 32, 100]⟩] _ (w5.heap.size + 1) ((hR5.below ((Below.refl _ _).alloc (Nat.le_refl _) _)).more (by omega)) (texts_lit w5 9 [⟨#[97, 32, 32, 32, 124, 32, 98, 98]⟩, ⟨#[99, 99, 99, 32, 124, 32, 100]⟩] (by decide)) (by decide) (by decide)
  rw [decide_eq_true rfl] at c6
  refine c6.mono ?_
  clear c6
  rintro e w6 ⟨rfl, hb7d⟩
  have hb7 : Below w5.heap.size w5 w6 := ((Below.refl _ _).alloc (Nat.le_refl _) _).trans (hb7d.mono (by simp))
  replace hbw := hbw.trans (hb7.mono hbw.size)
  go_wp2_with fail
  have hG := grid_lit2 w6 9 25 [⟨#[97]⟩, ⟨#[98, 98]⟩] [⟨#[195, 169]⟩] (by decide) (by decide)
  have hb8 : Below w6.heap.size w6 (((w6.alloc (.cells #[.string ⟨#[97]⟩, .string ⟨#[98, 98]⟩] 9)).alloc (.cells #[.string ⟨#[195, 169]⟩] 9)).alloc (.cells #[.slice (some ⟨w6.heap.size, 0, none⟩) 2 2, .slice (some ⟨w6.heap.size + 1, 0, none⟩) 1 1] 25)) :=
    (((Below.refl _ _).alloc (Nat.le_refl _) _).alloc (by simp) _).alloc (by simp; omega) _
  have c7 := widths_any _ gridB _ _ hG (by simp [alloc_size]) (by decide) (by decide +kernel) (by decide +kernel)
  rw [wid1] at c7
  refine c7.mono ?_
  clear c7 hG
  rintro e w7 ⟨v7, rfl, ho7, hb9⟩
  replace hb9 := hb8.trans (hb9.mono hb8.size)
  replace hbw := hbw.trans (hb9.mono hbw.size)
  have hR7 := own_rd ho7
  go_wp2_with fail
  have c8 := sameInts_any v7 (.slice (some ⟨w7.heap.size, 0, none⟩) 2 2) [1, 2] [1, 2] _ (w7.heap.size + 1) ((hR7.below ((Below.refl _ _).alloc (Nat.le_refl _) _)).more (by omega)) (rd_lit w7 3 [natV 1, natV 2] (by decide)) (by decide) (by decide)
  rw [decide_eq_true rfl] at c8
  refine c8.mono ?_
  clear c8
  rintro e w8 ⟨rfl, hb10d⟩
  have hb10 : Below w7.heap.size w7 w8 := ((Below.refl _ _).alloc (Nat.le_refl _) _).trans (hb10d.mono (by simp))
  replace hbw := hbw.trans (hb10.mono hbw.size)
  go_wp2_with fail
  refine (even_none _).mono ?_
  rintro e w9 ⟨rfl, rfl⟩
  go_wp2
  go_ret
  exact ⟨rfl, hbw⟩
end Go.Proofs.YtkfffoolpdilnaaDoor
