/-
  Walks: the law TermsSigns.
-/
import Derived.Test.YtacghogdodcinaaDoorTWg
namespace Go.Proofs.YtacghogdodcinaaDoor
open Go.RowKit Go.Bd
def sgn : Nat → UInt8 | 0 => 40 | 1 => 41 | 2 => 60 | 3 => 59 | _ => 62
theorem sgn_mem (j : Nat) : sgn j ∈ signs := by
  match j with
  | 0 => decide
  | 1 => decide
  | 2 => decide
  | 3 => decide
  | _ + 4 => exact (by decide : (62 : UInt8) ∈ signs)
theorem sgn_three {j : Nat} (h : j ≤ 2) : sgn j = 40 ∨ sgn j = 41 ∨ sgn j = 60 := by
  match j, h with
  | 0, _ => exact .inl rfl
  | 1, _ => exact .inr (.inl rfl)
  | 2, _ => exact .inr (.inr rfl)
theorem sgn_cell (j : Nat) (hj : j < 5) : (#[Value.string ⟨#[40]⟩, .string ⟨#[41]⟩, .string ⟨#[60]⟩, .string ⟨#[59]⟩, .string ⟨#[62]⟩] : Array Value)[j]? = some (.string ⟨#[sgn j]⟩) := by
  match j, hj with
  | 0, _ => rfl
  | 1, _ => rfl
  | 2, _ => rfl
  | 3, _ => rfl
  | 4, _ => rfl
def badV : Value := .tuple #[.string ⟨#[]⟩, .string ⟨#[]⟩, .string ⟨#[]⟩, .int .i64 4]
theorem parse_bad (x : ByteArray) (l : Bs) (hx : x.data.toList = l) (hl : parseB l = none) (hz : x.size ≤ 9223372036854775807) (m : Int) (W : World) (hW : W.cell? ⟨0, 0, none⟩ = some (.int .i64 m)) :
    Calls Tryd.prog 15 #[.string x] W fun e w' => e = .returned (.tuple #[.string ⟨#[]⟩, .string ⟨#[]⟩, .string ⟨#[]⟩, .int .i64 4]) ∧ Below W.heap.size W w' := by
  have h := Parse_any x m W hz hW
  rw [hx, parseV_none hl] at h
  exact h
theorem one_size (c : UInt8) : (⟨#[c]⟩ : ByteArray).size = 1 := rfl
theorem one_list (c : UInt8) : (⟨#[c]⟩ : ByteArray).data.toList = [c] := rfl
set_option maxHeartbeats 2000000 in
theorem termsSigns_any (a b c : ByteArray) (x1 : Int) (m : Int) (w : World) (hm : w.cell? ⟨0, 0, none⟩ = some (.int .i64 m)) (ha : a.size ≤ 140737488355328) (hb : b.size ≤ 140737488355328) (hc : c.size ≤ 140737488355328) (wx1 : (Lit.int .u8 x1).wf = true) :
    Calls Tryd.prog 6 #[.agg #[.string a, .string b, .string c], .int .u8 x1] w fun e w' => e = .returned (.bool true) ∧ Below w.heap.size w w' := by
  have hw0 := block_lt_of_cell hm
  have k := fun {W : World} (h : Below w.heap.size w W) => (h.cell (p := ⟨0, 0, none⟩) hw0).trans hm
  have B := fun W => beyond_three a.size b.size c.size W ha hb hc
  obtain ⟨n0, n1⟩ := bounds_u8 wx1
  clear wx1
  obtain ⟨n, rfl⟩ := Int.eq_ofNat_of_zero_le n0
  have hb0 : Below w.heap.size w (w.alloc (.cells #[.string a, .string b, .string c] 32)) := (Below.refl _ _).alloc (Nat.le_refl _) _
  by_cases hbig : 1048576 < a.size + b.size + c.size
  · rw [decide_eq_true hbig] at B
    go_enter Tryd.func6, Tryd.ntmps6
    go_wp2_with fail
    refine (alive_any m _ (k hb0)).mono ?_
    rintro e w1 ⟨rfl, hb1⟩
    replace hb1 := hb0.trans (hb1.mono hb0.size)
    clear hb0
    go_wp2_with (go_at_call 9; refine (B _).mono ?_; rintro e w' ⟨rfl, rfl⟩)
    replace hb1 := hb1.alloc hb1.size (.cells #[.int .i64 a.size, .int .i64 b.size, .int .i64 c.size] 3)
    refine (alive_any m _ (k hb1)).mono ?_
    rintro e w2 ⟨rfl, hb2⟩
    go_wp2
    go_ret
    exact ⟨rfl, hb1.trans (hb2.mono hb1.size)⟩
  · rw [decide_eq_false hbig] at B
    obtain ⟨j, hj⟩ : ∃ j : Nat, j = n % 5 := ⟨_, rfl⟩
    have hj5 : j < 5 := by omega
    have e1 : (n : Int) % 5 = (j : Int) := by omega
    have hcell := fun W : World => ((Holds.new W 9 #[.string ⟨#[40]⟩, .string ⟨#[41]⟩, .string ⟨#[60]⟩, .string ⟨#[59]⟩, .string ⟨#[62]⟩]).cell j).trans (sgn_cell j hj5)
    have hsg := sgn_mem j
    have hs3 := @sgn_three j
    have z1 := one_size (sgn j)
    have l1 := one_list (sgn j)
    generalize sgn j = sg at hcell hsg hs3 z1 l1
    generalize (⟨#[sg]⟩ : ByteArray) = S at hcell z1 l1
    have P1 := fun W h => parse_bad (a ++ S ++ b ++ S ++ c) _ (by simp [l1]) (parseB_twice (a := a.data.toList) (b := b.data.toList) (c := c.data.toList) hsg hsg) (by simp only [ByteArray.size_append]; omega) m W h
    have P2 := fun W h => parse_bad (a ++ (⟨#[59]⟩ : ByteArray) ++ b ++ (⟨#[62]⟩ : ByteArray) ++ c) _ (by simp) (parseB_twice (a := a.data.toList) (b := b.data.toList) (c := c.data.toList) (s := 59) (t := 62) (by decide) (by decide)) (by simp only [ByteArray.size_append, sz59, sz62]; omega) m W h
    have P3 : ∀ W, W.cell? ⟨0, 0, none⟩ = some (.int .i64 m) → ∃ (r1 r2 r3 : ByteArray) (r4 : Int), (j ≤ 2 → r4 = 4) ∧
        Calls Tryd.prog 15 #[.string (a ++ S ++ b)] W fun e w' => e = .returned (.tuple #[.string r1, .string r2, .string r3, .int .i64 r4]) ∧ Below W.heap.size W w' := by
      intro W h
      by_cases h2 : j ≤ 2
      · exact ⟨_, _, _, 4, fun _ => rfl, parse_bad (a ++ S ++ b) _ (by simp [l1]) (parseB_never (a := a.data.toList) (b := b.data.toList) (hs3 h2)) (by simp only [ByteArray.size_append]; omega) m W h⟩
      · have c := Parse_any (a ++ S ++ b) m W (by simp only [ByteArray.size_append]; omega) h
        obtain ⟨r1, r2, r3, r4, hr⟩ : ∃ r1 r2 r3 r4, parseV (a ++ S ++ b).data.toList = .tuple #[.string r1, .string r2, .string r3, .int .i64 r4] := by
          unfold parseV
          split
          · exact ⟨_, _, _, _, rfl⟩
          · exact ⟨_, _, _, _, rfl⟩
        rw [hr] at c
        exact ⟨r1, r2, r3, r4, fun h => absurd h h2, c⟩
    have zS : S.size ≤ 1 := by omega
    have z59 : (⟨#[59]⟩ : ByteArray).size ≤ 1 := by decide
    have z62 : (⟨#[62]⟩ : ByteArray).size ≤ 1 := by decide
    clear hsg hs3 z1 l1 hj
    go_enter Tryd.func6, Tryd.ntmps6
    go_wp2_with fail
    refine (alive_any m _ (k hb0)).mono ?_
    rintro e w1 ⟨rfl, hb1⟩
    replace hb1 := hb0.trans (hb1.mono hb0.size)
    clear hb0
    have hcl := hcell (w1.alloc (.cells #[.int .i64 a.size, .int .i64 b.size, .int .i64 c.size] 3))
    rw [World.size_alloc] at hcl
    clear hcell
    go_wp2_with (go_at_call 9; refine (B _).mono ?_; rintro e w' ⟨rfl, rfl⟩)
    replace hb1 := (hb1.alloc hb1.size (.cells #[.int .i64 a.size, .int .i64 b.size, .int .i64 c.size] 3)).alloc (by have := hb1.size; simp; omega) (.cells #[.string ⟨#[40]⟩, .string ⟨#[41]⟩, .string ⟨#[60]⟩, .string ⟨#[59]⟩, .string ⟨#[62]⟩] 9)
    refine (P1 _ (k hb1)).mono ?_
    rintro e w2 ⟨rfl, hb2⟩
    replace hb2 := hb1.trans (hb2.mono hb1.size)
    clear hb1 P1 B hcl
    go_wp2_with fail
    refine (P2 _ (k hb2)).mono ?_
    rintro e w3 ⟨rfl, hb3⟩
    replace hb3 := hb2.trans (hb3.mono hb2.size)
    clear hb2 P2
    go_wp2_with fail
    obtain ⟨r1, r2, r3, r4, hr4, c3⟩ := P3 _ (k hb3)
    refine c3.mono ?_
    rintro e w4 ⟨rfl, hb4⟩
    replace hb4 := hb3.trans (hb4.mono hb3.size)
    clear c3 P3
    by_cases h2 : j ≤ 2
    · obtain rfl := hr4 h2
      go_wp2
      go_ret
      exact ⟨rfl, hb4⟩
    · clear hr4
      have h2' : (2 : Int) < (j : Int) := by omega
      go_wp2
      go_ret
      exact ⟨rfl, hb4⟩
end Go.Proofs.YtacghogdodcinaaDoor
