/-
  Walks: alive, of the terms.
-/
import Derived.Test.YtacghogdodcinaaDoorTWe
namespace Go.Proofs.YtacghogdodcinaaDoor
open Go.RowKit Go.Bd
theorem al1 : parseV [32, 97, 32, 112, 105, 101, 32, 59, 32, 104, 111, 116, 32] = .tuple #[.string ⟨#[97, 32, 112, 105, 101]⟩, .string ⟨#[104, 111, 116]⟩, .string ⟨#[]⟩, .int .i64 0] := by kernel_rfl
theorem al2 : parseV [112, 105, 101, 62, 97, 112, 112, 108, 101] = .tuple #[.string ⟨#[112, 105, 101]⟩, .string ⟨#[]⟩, .string ⟨#[97, 112, 112, 108, 101]⟩, .int .i64 0] := by kernel_rfl
theorem al3 : parseV [97, 59, 98, 59, 99] = .tuple #[.string ⟨#[]⟩, .string ⟨#[]⟩, .string ⟨#[]⟩, .int .i64 4] := by kernel_rfl
theorem al4 : textV [97] [98] [] = .tuple #[.string ⟨#[97, 59, 98]⟩, .int .i64 0] := by
  rw [textV, if_pos (by decide +kernel)]; rfl
theorem al5 : textV [97] [98] [99] = .tuple #[.string ⟨#[]⟩, .int .i64 1] := by
  rw [textV, if_neg (by decide +kernel)]; rfl
theorem al6 : strV (key [84, 104, 101, 32, 80, 105, 101]) = .string ⟨#[112, 105, 101]⟩ := by kernel_rfl
theorem al7 : strV (key [97, 110, 32, 97, 32, 98]) = .string ⟨#[97, 32, 98]⟩ := by kernel_rfl
theorem al8 : strV (key [116, 104, 101]) = .string ⟨#[116, 104, 101]⟩ := by kernel_rfl
set_option maxHeartbeats 1000000 in
theorem alive_any (m : Int) (w : World) (hm : w.cell? ⟨0, 0, none⟩ = some (.int .i64 m)) :
    Calls Tryd.prog 14 #[] w fun e w' => e = .returned (.bool true) ∧ Below w.heap.size w w' := by
  have hw0 := block_lt_of_cell hm
  have c1 := fun w hm => Parse_any ⟨#[32, 97, 32, 112, 105, 101, 32, 59, 32, 104, 111, 116, 32]⟩ m w (by decide) hm
  have c2 := fun w hm => Parse_any ⟨#[112, 105, 101, 62, 97, 112, 112, 108, 101]⟩ m w (by decide) hm
  have c3 := fun w hm => Parse_any ⟨#[97, 59, 98, 59, 99]⟩ m w (by decide) hm
  have c4 := fun w hm => Text_any ⟨#[97]⟩ ⟨#[98]⟩ ⟨#[]⟩ w m hm (by decide) (by decide) (by decide)
  have c5 := fun w hm => Text_any ⟨#[97]⟩ ⟨#[98]⟩ ⟨#[99]⟩ w m hm (by decide) (by decide) (by decide)
  have c6 := fun w => key_any ⟨#[84, 104, 101, 32, 80, 105, 101]⟩ w (by decide)
  have c7 := fun w => key_any ⟨#[97, 110, 32, 97, 32, 98]⟩ w (by decide)
  have c8 := fun w => key_any ⟨#[116, 104, 101]⟩ w (by decide)
  simp only [al1, al2, al3, al4, al5, al6, al7, al8] at c1 c2 c3 c4 c5 c6 c7 c8
  have k := fun {W : World} (h : Below w.heap.size w W) => (h.cell (p := ⟨0, 0, none⟩) hw0).trans hm
  go_enter Tryd.func14, Tryd.ntmps14
  go_wp2_with fail
  refine (c1 _ hm).mono ?_
  rintro e w1 ⟨rfl, hb⟩
  go_wp2_with fail
  refine (c2 _ (k hb)).mono ?_
  rintro e w2 ⟨rfl, hb2⟩
  replace hb2 := hb.trans (hb2.mono hb.size)
  go_wp2_with fail
  refine (c3 _ (k hb2)).mono ?_
  rintro e w3 ⟨rfl, hb3⟩
  replace hb3 := hb2.trans (hb3.mono hb2.size)
  go_wp2_with fail
  refine (c4 _ (k hb3)).mono ?_
  rintro e w4 ⟨rfl, hb4⟩
  replace hb4 := hb3.trans (hb4.mono hb3.size)
  go_wp2_with fail
  refine (c5 _ (k hb4)).mono ?_
  rintro e w5 ⟨rfl, hb5⟩
  replace hb5 := hb4.trans (hb5.mono hb4.size)
  go_wp2_with fail
  refine (c6 _).mono ?_
  rintro e w6 ⟨rfl, hb6⟩
  replace hb6 := hb5.trans (hb6.mono hb5.size)
  go_wp2_with fail
  refine (c7 _).mono ?_
  rintro e w7 ⟨rfl, hb7⟩
  replace hb7 := hb6.trans (hb7.mono hb6.size)
  go_wp2_with fail
  refine (c8 _).mono ?_
  rintro e w8 ⟨rfl, hb8⟩
  replace hb8 := hb7.trans (hb8.mono hb7.size)
  go_wp2_with fail
  go_ret
  exact ⟨rfl, hb8⟩
end Go.Proofs.YtacghogdodcinaaDoor
