/-
  What the chapter's laws share, part 5: plain facts, memory, and walks of functions. Its conditions: those that each theorem names.
-/
import Derived.Test.YtggnkpblfmjbcaaGreatDoorChecked
import Derived.IntWalk
import Derived.Deep.Light
import Derived.Handy
import Derived.Lib.Hide
import Derived.BigQuiet
import Derived.Deep.LoopGhost
import Derived.Below
import Derived.WalkKit
import Derived.WalkSpells
import Derived.Deep.RegionHeld3
import Derived.Deep.AppendLies
import Derived.Deep.DrawnRows
import Derived.Outline
import Derived.Test.YtggnkpblfmjbcaaGreatDoorShelf
import Derived.Lib.ItoaLen
import Derived.Lib.LaidTab
import Derived.Lib.AppendStr
import Derived.Maps.AppendAt
import Derived.Laws.AppendOwnNone
import Derived.Test.YtggnkpblfmjbcaaGreatDoorK4
set_option linter.unusedSimpArgs false
set_option linter.unusedVariables false
namespace Go.Proofs.YtggnkpblfmjbcaaGreatDoor
open Go.RowKit Go.Bd
end Go.Proofs.YtggnkpblfmjbcaaGreatDoor
namespace Go.Proofs.YtggnkpblfmjbcaaGreatDoor
open Go.RowKit Go.Bd
def Tab (w : World) : Prop := Lib.TabIs Tryz.prog w "internal/strconv.uint64pow10" .u64 Lib.pow10Tab
theorem tab_global : Tryz.prog.globalNamed "internal/strconv.uint64pow10" = some 0 := by kernel_rfl
theorem Tab.lt {w : World} (h : Tab w) : 0 < w.heap.size := by
  unfold Tab Lib.TabIs World.var? at h
  rw [tab_global] at h
  simp only [Option.bind_some] at h
  split at h
  · rename_i cs t fr hh
    exact (Array.getElem?_eq_some_iff.1 hh).1
  · cases h
theorem Tab.keep {w w' : World} (h : Tab w) (hk : w'.heap[0]? = w.heap[0]?) : Tab w' := by
  unfold Tab Lib.TabIs World.var? at h ⊢
  rw [tab_global] at h ⊢
  simp only [Option.bind_some] at h ⊢
  rw [hk]; exact h
theorem Tab.below {w w' : World} {B : Nat} (h : Tab w) (hb : Below B w w') (hg : 0 < B) : Tab w' := h.keep (hb.block _ hg)
theorem below_grew (w : World) (q : Nat) (os : Array Obj) : Below w.heap.size w (Sort.grow (w.drewN q) os) := by
  refine ⟨rfl, rfl, rfl, ?_, fun k hk => ?_⟩
  · show w.heap.size ≤ (w.heap ++ os).size
    simp
  · show (w.heap ++ os)[k]? = w.heap[k]?
    rw [Array.getElem?_append_left hk]
def wordB (n : Nat) : ByteArray := (⟨#[35]⟩ : ByteArray) ++ ⟨(Lib.itoa (n : Int)).toArray⟩
set_option maxRecDepth 100000 in
theorem word_any (n : Nat) (hn : n ≤ 1000000000) (w : World) (ht : Tab w) :
    Calls Tryz.prog 139 #[.int .i64 (n : Int)] w fun e w' => e = .returned (.string (wordB n)) ∧ Below w.heap.size w w' := by
  have hl := Lib.itoa_length_le (n : Int) (by omega) (by omega)
  have c := Tryz.strconv_Itoa (n : Int) (by omega) (by omega) w ht
  have hz : (⟨(Lib.itoa (n : Int)).toArray⟩ : ByteArray).size ≤ 21 := by rw [size_mk]; exact hl
  have HW : Hid (wordB n = (⟨#[35]⟩ : ByteArray) ++ ⟨(Lib.itoa (n : Int)).toArray⟩) := rfl
  generalize (⟨(Lib.itoa (n : Int)).toArray⟩ : ByteArray) = s at c hz HW
  clear hl ht
  go_enter Tryz.func139, Tryz.ntmps139
  go_wp2_with fail
  refine c.mono ?_
  clear c
  rintro e w1 ⟨rfl, k, os, rfl⟩
  have HB := Lib.hid (below_grew w k os)
  go_wp2
  go_ret
  exact ⟨by rw [HW.out]; rfl, HB.out⟩
theorem markText_any (n : Nat) (hn : n ≤ 1000000000) (w : World) (ht : Tab w) :
    Calls Tryz.prog 104 #[.int .i64 (n : Int)] w fun e w' => e = .returned (.string (wordB n)) ∧ Below w.heap.size w w' := by
  have c := word_any n hn w ht
  clear ht
  generalize wordB n = s at c ⊢
  go_enter Tryz.func104, Tryz.ntmps104
  go_wp2_with fail
  refine c.mono ?_
  clear c
  rintro e w1 ⟨rfl, hb⟩
  have HB := Lib.hid hb
  clear hb
  go_wp2
  go_ret
  exact ⟨rfl, HB.out⟩
theorem isText_any (n : Nat) (hn : n ≤ 1000000000) (w : World) (ht : Tab w) :
    Calls Tryz.prog 121 #[.string (wordB n), .int .i64 (n : Int)] w fun e w' => e = .returned (.bool true) ∧ Below w.heap.size w w' := by
  have c := word_any n hn w ht
  clear ht
  generalize wordB n = s at c ⊢
  go_enter Tryz.func121, Tryz.ntmps121
  go_wp2_with fail
  refine c.mono ?_
  clear c
  rintro e w1 ⟨rfl, hb⟩
  have HB := Lib.hid hb
  clear hb
  go_wp2
  go_ret
  exact ⟨rfl, HB.out⟩
end Go.Proofs.YtggnkpblfmjbcaaGreatDoor
namespace Go.Proofs.YtggnkpblfmjbcaaGreatDoor
open Go.RowKit Go.Bd
theorem fillInt_none (bk : Nat) (w : World) (h : w.cell? ⟨bk, 2, none⟩ = some (.slice none 0 0)) :
    Calls Tryz.prog 45 #[.pointer (some ⟨bk, 0, none⟩)] w fun e w' => e = .returned (.tuple #[]) ∧ w' = w := by
  go_enter Tryz.func45, Tryz.ntmps45
  go_wp2
  refine wp_loop_rounds 1 ?_
  rw [rounds_succ]
  go_wp2
  go_end0
  exact ⟨rfl, rfl⟩
theorem growInt_none (bk : Nat) (w : World) (h : w.cell? ⟨bk, 2, none⟩ = some (.slice none 0 0)) :
    Calls Tryz.prog 62 #[.pointer (some ⟨bk, 0, none⟩)] w fun e w' => e = .returned (.tuple #[]) ∧ w' = w := by
  go_enter Tryz.func62, Tryz.ntmps62
  go_wp2
  refine wp_loop_rounds 1 ?_
  rw [rounds_succ]
  go_wp2
  go_end0
  exact ⟨rfl, rfl⟩
theorem lookInt_none (bk : Nat) (w : World) (h : w.cell? ⟨bk, 2, none⟩ = some (.slice none 0 0)) :
    Calls Tryz.prog 79 #[.pointer (some ⟨bk, 0, none⟩)] w fun e w' => e = .returned (.bool true) ∧ w' = w := by
  go_enter Tryz.func79, Tryz.ntmps79
  go_wp2
  refine wp_loop_rounds 1 ?_
  rw [rounds_succ]
  go_wp2
  go_ret
  exact ⟨rfl, rfl⟩
theorem fillFault_none (bk : Nat) (w : World) (h : w.cell? ⟨bk, 4, none⟩ = some (.slice none 0 0)) :
    Calls Tryz.prog 47 #[.pointer (some ⟨bk, 0, none⟩)] w fun e w' => e = .returned (.tuple #[]) ∧ w' = w := by
  go_enter Tryz.func47, Tryz.ntmps47
  go_wp2
  refine wp_loop_rounds 1 ?_
  rw [rounds_succ]
  go_wp2
  go_end0
  exact ⟨rfl, rfl⟩
theorem growFault_none (bk : Nat) (w : World) (h : w.cell? ⟨bk, 4, none⟩ = some (.slice none 0 0)) :
    Calls Tryz.prog 64 #[.pointer (some ⟨bk, 0, none⟩)] w fun e w' => e = .returned (.tuple #[]) ∧ w' = w := by
  go_enter Tryz.func64, Tryz.ntmps64
  go_wp2
  refine wp_loop_rounds 1 ?_
  rw [rounds_succ]
  go_wp2
  go_end0
  exact ⟨rfl, rfl⟩
theorem lookFault_none (bk : Nat) (w : World) (h : w.cell? ⟨bk, 4, none⟩ = some (.slice none 0 0)) :
    Calls Tryz.prog 81 #[.pointer (some ⟨bk, 0, none⟩)] w fun e w' => e = .returned (.bool true) ∧ w' = w := by
  go_enter Tryz.func81, Tryz.ntmps81
  go_wp2
  refine wp_loop_rounds 1 ?_
  rw [rounds_succ]
  go_wp2
  go_ret
  exact ⟨rfl, rfl⟩
theorem fillLine_none (bk : Nat) (w : World) (h : w.cell? ⟨bk, 5, none⟩ = some (.slice none 0 0)) :
    Calls Tryz.prog 48 #[.pointer (some ⟨bk, 0, none⟩)] w fun e w' => e = .returned (.tuple #[]) ∧ w' = w := by
  go_enter Tryz.func48, Tryz.ntmps48
  go_wp2
  refine wp_loop_rounds 1 ?_
  rw [rounds_succ]
  go_wp2
  go_end0
  exact ⟨rfl, rfl⟩
theorem growLine_none (bk : Nat) (w : World) (h : w.cell? ⟨bk, 5, none⟩ = some (.slice none 0 0)) :
    Calls Tryz.prog 65 #[.pointer (some ⟨bk, 0, none⟩)] w fun e w' => e = .returned (.tuple #[]) ∧ w' = w := by
  go_enter Tryz.func65, Tryz.ntmps65
  go_wp2
  refine wp_loop_rounds 1 ?_
  rw [rounds_succ]
  go_wp2
  go_end0
  exact ⟨rfl, rfl⟩
theorem lookLine_none (bk : Nat) (w : World) (h : w.cell? ⟨bk, 5, none⟩ = some (.slice none 0 0)) :
    Calls Tryz.prog 82 #[.pointer (some ⟨bk, 0, none⟩)] w fun e w' => e = .returned (.bool true) ∧ w' = w := by
  go_enter Tryz.func82, Tryz.ntmps82
  go_wp2
  refine wp_loop_rounds 1 ?_
  rw [rounds_succ]
  go_wp2
  go_ret
  exact ⟨rfl, rfl⟩
theorem fillSource_none (bk : Nat) (w : World) (h : w.cell? ⟨bk, 6, none⟩ = some (.slice none 0 0)) :
    Calls Tryz.prog 49 #[.pointer (some ⟨bk, 0, none⟩)] w fun e w' => e = .returned (.tuple #[]) ∧ w' = w := by
  go_enter Tryz.func49, Tryz.ntmps49
  go_wp2
  refine wp_loop_rounds 1 ?_
  rw [rounds_succ]
  go_wp2
  go_end0
  exact ⟨rfl, rfl⟩
theorem growSource_none (bk : Nat) (w : World) (h : w.cell? ⟨bk, 6, none⟩ = some (.slice none 0 0)) :
    Calls Tryz.prog 66 #[.pointer (some ⟨bk, 0, none⟩)] w fun e w' => e = .returned (.tuple #[]) ∧ w' = w := by
  go_enter Tryz.func66, Tryz.ntmps66
  go_wp2
  refine wp_loop_rounds 1 ?_
  rw [rounds_succ]
  go_wp2
  go_end0
  exact ⟨rfl, rfl⟩
theorem lookSource_none (bk : Nat) (w : World) (h : w.cell? ⟨bk, 6, none⟩ = some (.slice none 0 0)) :
    Calls Tryz.prog 83 #[.pointer (some ⟨bk, 0, none⟩)] w fun e w' => e = .returned (.bool true) ∧ w' = w := by
  go_enter Tryz.func83, Tryz.ntmps83
  go_wp2
  refine wp_loop_rounds 1 ?_
  rw [rounds_succ]
  go_wp2
  go_ret
  exact ⟨rfl, rfl⟩
theorem fillAttr_none (bk : Nat) (w : World) (h : w.cell? ⟨bk, 7, none⟩ = some (.slice none 0 0)) :
    Calls Tryz.prog 50 #[.pointer (some ⟨bk, 0, none⟩)] w fun e w' => e = .returned (.tuple #[]) ∧ w' = w := by
  go_enter Tryz.func50, Tryz.ntmps50
  go_wp2
  refine wp_loop_rounds 1 ?_
  rw [rounds_succ]
  go_wp2
  go_end0
  exact ⟨rfl, rfl⟩
theorem growAttr_none (bk : Nat) (w : World) (h : w.cell? ⟨bk, 7, none⟩ = some (.slice none 0 0)) :
    Calls Tryz.prog 67 #[.pointer (some ⟨bk, 0, none⟩)] w fun e w' => e = .returned (.tuple #[]) ∧ w' = w := by
  go_enter Tryz.func67, Tryz.ntmps67
  go_wp2
  refine wp_loop_rounds 1 ?_
  rw [rounds_succ]
  go_wp2
  go_end0
  exact ⟨rfl, rfl⟩
theorem lookAttr_none (bk : Nat) (w : World) (h : w.cell? ⟨bk, 7, none⟩ = some (.slice none 0 0)) :
    Calls Tryz.prog 84 #[.pointer (some ⟨bk, 0, none⟩)] w fun e w' => e = .returned (.bool true) ∧ w' = w := by
  go_enter Tryz.func84, Tryz.ntmps84
  go_wp2
  refine wp_loop_rounds 1 ?_
  rw [rounds_succ]
  go_wp2
  go_ret
  exact ⟨rfl, rfl⟩
theorem fillDiag_none (bk : Nat) (w : World) (h : w.cell? ⟨bk, 8, none⟩ = some (.slice none 0 0)) :
    Calls Tryz.prog 51 #[.pointer (some ⟨bk, 0, none⟩)] w fun e w' => e = .returned (.tuple #[]) ∧ w' = w := by
  go_enter Tryz.func51, Tryz.ntmps51
  go_wp2
  refine wp_loop_rounds 1 ?_
  rw [rounds_succ]
  go_wp2
  go_end0
  exact ⟨rfl, rfl⟩
theorem growDiag_none (bk : Nat) (w : World) (h : w.cell? ⟨bk, 8, none⟩ = some (.slice none 0 0)) :
    Calls Tryz.prog 68 #[.pointer (some ⟨bk, 0, none⟩)] w fun e w' => e = .returned (.tuple #[]) ∧ w' = w := by
  go_enter Tryz.func68, Tryz.ntmps68
  go_wp2
  refine wp_loop_rounds 1 ?_
  rw [rounds_succ]
  go_wp2
  go_end0
  exact ⟨rfl, rfl⟩
theorem lookDiag_none (bk : Nat) (w : World) (h : w.cell? ⟨bk, 8, none⟩ = some (.slice none 0 0)) :
    Calls Tryz.prog 85 #[.pointer (some ⟨bk, 0, none⟩)] w fun e w' => e = .returned (.bool true) ∧ w' = w := by
  go_enter Tryz.func85, Tryz.ntmps85
  go_wp2
  refine wp_loop_rounds 1 ?_
  rw [rounds_succ]
  go_wp2
  go_ret
  exact ⟨rfl, rfl⟩
theorem fillSpan_none (bk : Nat) (w : World) (h : w.cell? ⟨bk, 9, none⟩ = some (.slice none 0 0)) :
    Calls Tryz.prog 52 #[.pointer (some ⟨bk, 0, none⟩)] w fun e w' => e = .returned (.tuple #[]) ∧ w' = w := by
  go_enter Tryz.func52, Tryz.ntmps52
  go_wp2
  refine wp_loop_rounds 1 ?_
  rw [rounds_succ]
  go_wp2
  go_end0
  exact ⟨rfl, rfl⟩
theorem growSpan_none (bk : Nat) (w : World) (h : w.cell? ⟨bk, 9, none⟩ = some (.slice none 0 0)) :
    Calls Tryz.prog 69 #[.pointer (some ⟨bk, 0, none⟩)] w fun e w' => e = .returned (.tuple #[]) ∧ w' = w := by
  go_enter Tryz.func69, Tryz.ntmps69
  go_wp2
  refine wp_loop_rounds 1 ?_
  rw [rounds_succ]
  go_wp2
  go_end0
  exact ⟨rfl, rfl⟩
theorem lookSpan_none (bk : Nat) (w : World) (h : w.cell? ⟨bk, 9, none⟩ = some (.slice none 0 0)) :
    Calls Tryz.prog 86 #[.pointer (some ⟨bk, 0, none⟩)] w fun e w' => e = .returned (.bool true) ∧ w' = w := by
  go_enter Tryz.func86, Tryz.ntmps86
  go_wp2
  refine wp_loop_rounds 1 ?_
  rw [rounds_succ]
  go_wp2
  go_ret
  exact ⟨rfl, rfl⟩
theorem fillCell_none (bk : Nat) (w : World) (h : w.cell? ⟨bk, 10, none⟩ = some (.slice none 0 0)) :
    Calls Tryz.prog 53 #[.pointer (some ⟨bk, 0, none⟩)] w fun e w' => e = .returned (.tuple #[]) ∧ w' = w := by
  go_enter Tryz.func53, Tryz.ntmps53
  go_wp2
  refine wp_loop_rounds 1 ?_
  rw [rounds_succ]
  go_wp2
  go_end0
  exact ⟨rfl, rfl⟩
theorem growCell_none (bk : Nat) (w : World) (h : w.cell? ⟨bk, 10, none⟩ = some (.slice none 0 0)) :
    Calls Tryz.prog 70 #[.pointer (some ⟨bk, 0, none⟩)] w fun e w' => e = .returned (.tuple #[]) ∧ w' = w := by
  go_enter Tryz.func70, Tryz.ntmps70
  go_wp2
  refine wp_loop_rounds 1 ?_
  rw [rounds_succ]
  go_wp2
  go_end0
  exact ⟨rfl, rfl⟩
theorem lookCell_none (bk : Nat) (w : World) (h : w.cell? ⟨bk, 10, none⟩ = some (.slice none 0 0)) :
    Calls Tryz.prog 87 #[.pointer (some ⟨bk, 0, none⟩)] w fun e w' => e = .returned (.bool true) ∧ w' = w := by
  go_enter Tryz.func87, Tryz.ntmps87
  go_wp2
  refine wp_loop_rounds 1 ?_
  rw [rounds_succ]
  go_wp2
  go_ret
  exact ⟨rfl, rfl⟩
theorem fillRow_none (bk : Nat) (w : World) (h : w.cell? ⟨bk, 11, none⟩ = some (.slice none 0 0)) :
    Calls Tryz.prog 54 #[.pointer (some ⟨bk, 0, none⟩)] w fun e w' => e = .returned (.tuple #[]) ∧ w' = w := by
  go_enter Tryz.func54, Tryz.ntmps54
  go_wp2
  refine wp_loop_rounds 1 ?_
  rw [rounds_succ]
  go_wp2
  go_end0
  exact ⟨rfl, rfl⟩
theorem growRow_none (bk : Nat) (w : World) (h : w.cell? ⟨bk, 11, none⟩ = some (.slice none 0 0)) :
    Calls Tryz.prog 71 #[.pointer (some ⟨bk, 0, none⟩)] w fun e w' => e = .returned (.tuple #[]) ∧ w' = w := by
  go_enter Tryz.func71, Tryz.ntmps71
  go_wp2
  refine wp_loop_rounds 1 ?_
  rw [rounds_succ]
  go_wp2
  go_end0
  exact ⟨rfl, rfl⟩
theorem lookRow_none (bk : Nat) (w : World) (h : w.cell? ⟨bk, 11, none⟩ = some (.slice none 0 0)) :
    Calls Tryz.prog 88 #[.pointer (some ⟨bk, 0, none⟩)] w fun e w' => e = .returned (.bool true) ∧ w' = w := by
  go_enter Tryz.func88, Tryz.ntmps88
  go_wp2
  refine wp_loop_rounds 1 ?_
  rw [rounds_succ]
  go_wp2
  go_ret
  exact ⟨rfl, rfl⟩
theorem fillBlock_none (bk : Nat) (w : World) (h : w.cell? ⟨bk, 12, none⟩ = some (.slice none 0 0)) :
    Calls Tryz.prog 55 #[.pointer (some ⟨bk, 0, none⟩)] w fun e w' => e = .returned (.tuple #[]) ∧ w' = w := by
  go_enter Tryz.func55, Tryz.ntmps55
  go_wp2
  refine wp_loop_rounds 1 ?_
  rw [rounds_succ]
  go_wp2
  go_end0
  exact ⟨rfl, rfl⟩
theorem growBlock_none (bk : Nat) (w : World) (h : w.cell? ⟨bk, 12, none⟩ = some (.slice none 0 0)) :
    Calls Tryz.prog 72 #[.pointer (some ⟨bk, 0, none⟩)] w fun e w' => e = .returned (.tuple #[]) ∧ w' = w := by
  go_enter Tryz.func72, Tryz.ntmps72
  go_wp2
  refine wp_loop_rounds 1 ?_
  rw [rounds_succ]
  go_wp2
  go_end0
  exact ⟨rfl, rfl⟩
theorem lookBlock_none (bk : Nat) (w : World) (h : w.cell? ⟨bk, 12, none⟩ = some (.slice none 0 0)) :
    Calls Tryz.prog 89 #[.pointer (some ⟨bk, 0, none⟩)] w fun e w' => e = .returned (.bool true) ∧ w' = w := by
  go_enter Tryz.func89, Tryz.ntmps89
  go_wp2
  refine wp_loop_rounds 1 ?_
  rw [rounds_succ]
  go_wp2
  go_ret
  exact ⟨rfl, rfl⟩
theorem fillChapter_none (bk : Nat) (w : World) (h : w.cell? ⟨bk, 13, none⟩ = some (.slice none 0 0)) :
    Calls Tryz.prog 56 #[.pointer (some ⟨bk, 0, none⟩)] w fun e w' => e = .returned (.tuple #[]) ∧ w' = w := by
  go_enter Tryz.func56, Tryz.ntmps56
  go_wp2
  refine wp_loop_rounds 1 ?_
  rw [rounds_succ]
  go_wp2
  go_end0
  exact ⟨rfl, rfl⟩
theorem growChapter_none (bk : Nat) (w : World) (h : w.cell? ⟨bk, 13, none⟩ = some (.slice none 0 0)) :
    Calls Tryz.prog 73 #[.pointer (some ⟨bk, 0, none⟩)] w fun e w' => e = .returned (.tuple #[]) ∧ w' = w := by
  go_enter Tryz.func73, Tryz.ntmps73
  go_wp2
  refine wp_loop_rounds 1 ?_
  rw [rounds_succ]
  go_wp2
  go_end0
  exact ⟨rfl, rfl⟩
theorem lookChapter_none (bk : Nat) (w : World) (h : w.cell? ⟨bk, 13, none⟩ = some (.slice none 0 0)) :
    Calls Tryz.prog 90 #[.pointer (some ⟨bk, 0, none⟩)] w fun e w' => e = .returned (.bool true) ∧ w' = w := by
  go_enter Tryz.func90, Tryz.ntmps90
  go_wp2
  refine wp_loop_rounds 1 ?_
  rw [rounds_succ]
  go_wp2
  go_ret
  exact ⟨rfl, rfl⟩
theorem fillPlace_none (bk : Nat) (w : World) (h : w.cell? ⟨bk, 14, none⟩ = some (.slice none 0 0)) :
    Calls Tryz.prog 57 #[.pointer (some ⟨bk, 0, none⟩)] w fun e w' => e = .returned (.tuple #[]) ∧ w' = w := by
  go_enter Tryz.func57, Tryz.ntmps57
  go_wp2
  refine wp_loop_rounds 1 ?_
  rw [rounds_succ]
  go_wp2
  go_end0
  exact ⟨rfl, rfl⟩
theorem growPlace_none (bk : Nat) (w : World) (h : w.cell? ⟨bk, 14, none⟩ = some (.slice none 0 0)) :
    Calls Tryz.prog 74 #[.pointer (some ⟨bk, 0, none⟩)] w fun e w' => e = .returned (.tuple #[]) ∧ w' = w := by
  go_enter Tryz.func74, Tryz.ntmps74
  go_wp2
  refine wp_loop_rounds 1 ?_
  rw [rounds_succ]
  go_wp2
  go_end0
  exact ⟨rfl, rfl⟩
theorem lookPlace_none (bk : Nat) (w : World) (h : w.cell? ⟨bk, 14, none⟩ = some (.slice none 0 0)) :
    Calls Tryz.prog 91 #[.pointer (some ⟨bk, 0, none⟩)] w fun e w' => e = .returned (.bool true) ∧ w' = w := by
  go_enter Tryz.func91, Tryz.ntmps91
  go_wp2
  refine wp_loop_rounds 1 ?_
  rw [rounds_succ]
  go_wp2
  go_ret
  exact ⟨rfl, rfl⟩
theorem fillLocator_none (bk : Nat) (w : World) (h : w.cell? ⟨bk, 15, none⟩ = some (.slice none 0 0)) :
    Calls Tryz.prog 58 #[.pointer (some ⟨bk, 0, none⟩)] w fun e w' => e = .returned (.tuple #[]) ∧ w' = w := by
  go_enter Tryz.func58, Tryz.ntmps58
  go_wp2
  refine wp_loop_rounds 1 ?_
  rw [rounds_succ]
  go_wp2
  go_end0
  exact ⟨rfl, rfl⟩
theorem growLocator_none (bk : Nat) (w : World) (h : w.cell? ⟨bk, 15, none⟩ = some (.slice none 0 0)) :
    Calls Tryz.prog 75 #[.pointer (some ⟨bk, 0, none⟩)] w fun e w' => e = .returned (.tuple #[]) ∧ w' = w := by
  go_enter Tryz.func75, Tryz.ntmps75
  go_wp2
  refine wp_loop_rounds 1 ?_
  rw [rounds_succ]
  go_wp2
  go_end0
  exact ⟨rfl, rfl⟩
theorem lookLocator_none (bk : Nat) (w : World) (h : w.cell? ⟨bk, 15, none⟩ = some (.slice none 0 0)) :
    Calls Tryz.prog 92 #[.pointer (some ⟨bk, 0, none⟩)] w fun e w' => e = .returned (.bool true) ∧ w' = w := by
  go_enter Tryz.func92, Tryz.ntmps92
  go_wp2
  refine wp_loop_rounds 1 ?_
  rw [rounds_succ]
  go_wp2
  go_ret
  exact ⟨rfl, rfl⟩
theorem fillEntry_none (bk : Nat) (w : World) (h : w.cell? ⟨bk, 16, none⟩ = some (.slice none 0 0)) :
    Calls Tryz.prog 59 #[.pointer (some ⟨bk, 0, none⟩)] w fun e w' => e = .returned (.tuple #[]) ∧ w' = w := by
  go_enter Tryz.func59, Tryz.ntmps59
  go_wp2
  refine wp_loop_rounds 1 ?_
  rw [rounds_succ]
  go_wp2
  go_end0
  exact ⟨rfl, rfl⟩
theorem growEntry_none (bk : Nat) (w : World) (h : w.cell? ⟨bk, 16, none⟩ = some (.slice none 0 0)) :
    Calls Tryz.prog 76 #[.pointer (some ⟨bk, 0, none⟩)] w fun e w' => e = .returned (.tuple #[]) ∧ w' = w := by
  go_enter Tryz.func76, Tryz.ntmps76
  go_wp2
  refine wp_loop_rounds 1 ?_
  rw [rounds_succ]
  go_wp2
  go_end0
  exact ⟨rfl, rfl⟩
theorem lookEntry_none (bk : Nat) (w : World) (h : w.cell? ⟨bk, 16, none⟩ = some (.slice none 0 0)) :
    Calls Tryz.prog 93 #[.pointer (some ⟨bk, 0, none⟩)] w fun e w' => e = .returned (.bool true) ∧ w' = w := by
  go_enter Tryz.func93, Tryz.ntmps93
  go_wp2
  refine wp_loop_rounds 1 ?_
  rw [rounds_succ]
  go_wp2
  go_ret
  exact ⟨rfl, rfl⟩
theorem fillFile_none (bk : Nat) (w : World) (h : w.cell? ⟨bk, 17, none⟩ = some (.slice none 0 0)) :
    Calls Tryz.prog 60 #[.pointer (some ⟨bk, 0, none⟩)] w fun e w' => e = .returned (.tuple #[]) ∧ w' = w := by
  go_enter Tryz.func60, Tryz.ntmps60
  go_wp2
  refine wp_loop_rounds 1 ?_
  rw [rounds_succ]
  go_wp2
  go_end0
  exact ⟨rfl, rfl⟩
theorem growFile_none (bk : Nat) (w : World) (h : w.cell? ⟨bk, 17, none⟩ = some (.slice none 0 0)) :
    Calls Tryz.prog 77 #[.pointer (some ⟨bk, 0, none⟩)] w fun e w' => e = .returned (.tuple #[]) ∧ w' = w := by
  go_enter Tryz.func77, Tryz.ntmps77
  go_wp2
  refine wp_loop_rounds 1 ?_
  rw [rounds_succ]
  go_wp2
  go_end0
  exact ⟨rfl, rfl⟩
theorem lookFile_none (bk : Nat) (w : World) (h : w.cell? ⟨bk, 17, none⟩ = some (.slice none 0 0)) :
    Calls Tryz.prog 94 #[.pointer (some ⟨bk, 0, none⟩)] w fun e w' => e = .returned (.bool true) ∧ w' = w := by
  go_enter Tryz.func94, Tryz.ntmps94
  go_wp2
  refine wp_loop_rounds 1 ?_
  rw [rounds_succ]
  go_wp2
  go_ret
  exact ⟨rfl, rfl⟩
end Go.Proofs.YtggnkpblfmjbcaaGreatDoor
namespace Go.Proofs.YtggnkpblfmjbcaaGreatDoor
open Go.RowKit Go.Bd
theorem name_world2 {α : Sort _} {K : α → World → Prop} {a : α} {W : World} (h : ∀ W', W' = W → K a W') : K a W := h W rfl
structure Ent where
  v : Value
  lg : Value
  n : Nat
  len : Nat
def Ent.cells (e : Ent) : List Value := [e.v, e.lg, .int .i64 (e.n : Int)]
def flat : List Ent → List Value
  | [] => []
  | e :: r => e.cells ++ flat r
theorem flat_at : ∀ {es : List Ent} {j : Nat} {e : Ent} {i : Nat} {u : Value}, es[j]? = some e → e.cells[i]? = some u → (flat es)[j * 3 + i]? = some u
  | [], _, _, _, _, h, _ => by simp at h
  | f :: es, 0, e, i, u, h, hu => by
    simp only [List.getElem?_cons_zero, Option.some.injEq] at h
    subst h
    rw [flat, Nat.zero_mul, Nat.zero_add, List.getElem?_append_left (List.getElem?_eq_some_iff.1 hu).1]
    exact hu
  | f :: es, j + 1, e, i, u, h, hu => by
    rw [flat, List.getElem?_append_right (by simp [Ent.cells]; omega)]
    rw [show (j + 1) * 3 + i - f.cells.length = j * 3 + i by simp [Ent.cells]; omega]
    exact flat_at (by simpa using h) hu
def tH : TypeId := 100
structure TxSt (O : Nat → Option Obj) (B : Nat) (w W : World) (bk : Nat) (cs : Array Value) (A : Option Addr) (c : Nat) (es : List Ent) : Prop where
  hb : Below B w W
  wB : B ≤ w.heap.size
  tab : Tab W
  tabB : 0 < B
  bkB : B ≤ bk
  hbk : Holds W bk 54 cs
  c3 : cs[3]? = some (.slice A es.length c)
  row : W.ownsRow B tH 3 (.slice A es.length c) es.length (flat es)
  bkr : (Value.slice A es.length c).ownBlock ≠ some bk
  ap : ∀ (i : Nat) e, es[i]? = some e → e.v.ownBlock ≠ some bk ∧ ∀ b, e.v.ownBlock = some b → (Value.slice A es.length c).ownBlock ≠ some b
  un : ∀ (i j : Nat) e f, i ≠ j → es[i]? = some e → es[j]? = some f → ∀ b, e.v.ownBlock = some b → f.v.ownBlock ≠ some b
  kp : ∀ (b : Nat) o, O b = some o → W.heap[b]? = some o
  kd : ∀ (b : Nat) o, O b = some o → b ≠ bk ∧ (Value.slice A es.length c).ownBlock ≠ some b ∧ ∀ (i : Nat) e, es[i]? = some e → e.v.ownBlock ≠ some b
  kl : ∀ (i : Nat) e b, es[i]? = some e → e.lg.ownBlock = some b → O b = none
  sm : es.length ≤ 1000000 ∧ ∀ (i : Nat) e, es[i]? = some e → e.n ≤ 1000000 ∧ e.len ≤ 2147483647 ∧ ∃ lA ll lc, e.lg = .slice lA ll lc
section
variable {O : Nat → Option Obj} {B : Nat} {w W W' : World} {bk : Nat} {cs : Array Value} {A : Option Addr} {c : Nat} {es : List Ent}
theorem TxSt.offV (h : TxSt O B w W bk cs A c es) {i b : Nat} {e : Ent} (he : es[i]? = some e) (hb : e.v.ownBlock = some b) : O b = none := by
  cases ho : O b with
  | none => rfl
  | some o => exact absurd hb ((h.kd b o ho).2.2 i e he)
theorem TxSt.chg {S : Nat → Prop} (h : TxSt O B w W bk cs A c es) (hc : Chg W W' S) (hS : ∀ k, S k → B ≤ k ∧ O k = none) (h1 : ¬ S bk) (h2 : ∀ b, (Value.slice A es.length c).ownBlock = some b → ¬ S b) : TxSt O B w W' bk cs A c es where
  hb := h.hb.trans (hc.toBelow (Nat.le_trans h.wB h.hb.size) (fun k hk => (hS k hk).1))
  wB := h.wB
  tab := h.tab.keep (hc.block _ h.tab.lt (fun hs => by have := (hS _ hs).1; have := h.tabB; omega))
  tabB := h.tabB
  bkB := h.bkB
  hbk := hc.holds h1 h.hbk
  c3 := h.c3
  row := hc.owns h.row h2
  bkr := h.bkr
  ap := h.ap
  un := h.un
  kp := fun b o ho => (hc.block b (Array.getElem?_eq_some_iff.1 (h.kp b o ho)).1 (fun hs => by rw [(hS b hs).2] at ho; cases ho)).trans (h.kp b o ho)
  kd := h.kd
  kl := h.kl
  sm := h.sm
end
def Fl (B : Nat) (W : World) (es : List Ent) (k : Nat) : Prop :=
  ∀ (j : Nat) e, es[j]? = some e → ∃ xs, W.ownsRow B 9 1 e.v e.len xs ∧ (j < k → xs = List.replicate e.len (.string (wordB e.n)))
theorem Fl.chg {B : Nat} {W W' : World} {es : List Ent} {k : Nat} {S : Nat → Prop} (h : Fl B W es k) (hc : Chg W W' S) (hS : ∀ (j : Nat) e, es[j]? = some e → ∀ b, e.v.ownBlock = some b → ¬ S b) : Fl B W' es k := fun j e he => by
  obtain ⟨xs, h1, h2⟩ := h j e he
  exact ⟨xs, hc.owns h1 (hS j e he), h2⟩
def Fi (B : Nat) (W : World) (es : List Ent) (k i : Nat) : Prop :=
  ∀ (j : Nat) e, es[j]? = some e → ∃ xs, W.ownsRow B 9 1 e.v e.len xs ∧ (j < k → xs = List.replicate e.len (.string (wordB e.n))) ∧ (j = k → xs.take i = List.replicate i (.string (wordB e.n)))
theorem Fi.chg {B : Nat} {W W' : World} {es : List Ent} {k i : Nat} {S : Nat → Prop} (h : Fi B W es k i) (hc : Chg W W' S) (hS : ∀ (j : Nat) e, es[j]? = some e → ∀ b, e.v.ownBlock = some b → ¬ S b) : Fi B W' es k i := fun j e he => by
  obtain ⟨xs, h1, h2⟩ := h j e he
  exact ⟨xs, hc.owns h1 (hS j e he), h2⟩
theorem Fi.put {O : Nat → Option Obj} {B : Nat} {w W : World} {bk : Nat} {cs : Array Value} {A : Option Addr} {c : Nat} {es : List Ent} {k i g cap : Nat} {e : Ent} (h : Fi B W es k i) (hs : TxSt O B w W bk cs A c es) (he : es[k]? = some e) (hv : e.v = .slice (some ⟨g, 0, none⟩) e.len cap) (hi : i < e.len) :
    Fi B (W.setCell ⟨g, i, none⟩ (.string (wordB e.n))) es k (i + 1) := fun j f hf => by
  obtain ⟨xs, h1, h2, h3⟩ := h j f hf
  by_cases hj : j = k
  · subst hj
    rw [he] at hf
    obtain rfl := Option.some.inj hf
    rw [hv] at h1 ⊢
    refine ⟨xs.set i (.string (wordB e.n)), own_set h1 i _, fun h => absurd h (Nat.lt_irrefl _), fun _ => ?_⟩
    have hxl : xs.length = e.len := own_length h1
    rw [List.take_set, List.take_add_one, h3 rfl, List.replicate_succ']
    have : i < xs.length := by omega
    rw [List.getElem?_eq_getElem this]
    simp only [Option.toList_some]
    simp [List.set_append]
  · refine ⟨xs, own_far h1 (fun hb => hs.un k j e f (fun e => hj e.symm) he hf g (by rw [hv]; rfl) hb) _, h2, fun h => absurd h hj⟩
set_option maxRecDepth 100000 in
set_option maxHeartbeats 4000000 in
theorem fillText_any {O : Nat → Option Obj} {B : Nat} {w W : World} {bk : Nat} {cs : Array Value} {A : Option Addr} {c : Nat} {es : List Ent} (hs : TxSt O B w W bk cs A c es) (hf : Fl B W es 0) :
    Calls Tryz.prog 46 #[.pointer (some ⟨bk, 0, none⟩)] W fun e W' => e = .returned (.tuple #[]) ∧ TxSt O B w W' bk cs A c es ∧ Fl B W' es es.length := by
  obtain ⟨m, hm⟩ : ∃ m, es.length = m := ⟨_, rfl⟩
  have HM := Lib.hid hm
  have hm1 : m ≤ 1000000 := by rw [← hm]; exact hs.sm.1
  have HS := Lib.hid hs
  have HF := Lib.hid hf
  rw [hm]
  clear hs hf hm
  go_enter Tryz.func46, Tryz.ntmps46
  go_wp2
  go_loopg [2] m (fun q i wr => ∃ k : Nat, k + q = m ∧ i = .int .i64 (k : Int) ∧ Hid (TxSt O B w wr bk cs A c es ∧ Fl B wr es k))
  case atStart => exact ⟨0, by omega, rfl, HS.out, HF.out⟩
  case round =>
    obtain ⟨k, hk, rfl, HR⟩ := hrel
    obtain ⟨gO, hgO⟩ : ∃ x, x = gk := ⟨_, rfl⟩
    subst hgO
    obtain ⟨wO, hwO⟩ : ∃ x, x = wr := ⟨_, rfl⟩
    subst hwO
    have b3 := (HR.out.1.hbk.cell 3).trans HR.out.1.c3
    rw [HM.out] at b3
    by_cases hlt : k < m
    · obtain ⟨e, he⟩ : ∃ x, es[k]? = some x := ⟨_, List.getElem?_eq_getElem (by rw [HM.out]; exact hlt)⟩
      have hrow := HR.out.1.row
      rw [HM.out] at hrow
      rcases hrow.2 with ⟨_, h0⟩ | ⟨tr, tc, cur, hv, _⟩
      · omega
      injection hv with e1 e2 e3
      subst e1
      subst e3
      have r0 := hrow.cells (g := tr) rfl (k * 3 + 0) _ (flat_at he rfl)
      have r1 := hrow.cells (g := tr) rfl (k * 3 + 1) _ (flat_at he rfl)
      have r2 := hrow.cells (g := tr) rfl (k * 3 + 2) _ (flat_at he rfl)
      rw [addr_add] at r0 r1 r2
      rw [Nat.add_zero] at r0
      obtain ⟨xs0, ho0, _⟩ := HR.out.2 k e he
      obtain ⟨vA, vc, hev, hvc⟩ := own_slice ho0
      obtain ⟨hen, hel, lA, ll, lc, hlg⟩ := HR.out.1.sm.2 k e he
      have HVL := Lib.hid (fun b hb => (ho0.lt b hb).2)
      rw [hev] at HVL
      rw [hev] at r0
      rw [hlg] at r1
      have HE := Lib.hid he
      have HEV := Lib.hid hev
      have hbo := World.block_lt_of_cell? _ _ r0
      have hst0 : Hid (TxSt O B w (wO.alloc (.cells #[.slice vA e.len vc, .slice lA ll lc, .int .i64 (e.n : Int)] 100)) bk cs (some ⟨tr, 0, none⟩) c es ∧ Fi B (wO.alloc (.cells #[.slice vA e.len vc, .slice lA ll lc, .int .i64 (e.n : Int)] 100)) es k 0 ∧ Holds (wO.alloc (.cells #[.slice vA e.len vc, .slice lA ll lc, .int .i64 (e.n : Int)] 100)) wO.heap.size 100 #[.slice vA e.len vc, .slice lA ll lc, .int .i64 (e.n : Int)]) := by
        have hch := (Chg.refl wO (fun _ => False)).alloc (.cells #[.slice vA e.len vc, .slice lA ll lc, .int .i64 (e.n : Int)] 100)
        refine ⟨HR.out.1.chg hch (fun _ h => h.elim) (fun h => h) (fun _ _ h => h), ?_, Holds.new wO _ _⟩
        intro j f hf
        obtain ⟨xs, h1, h2⟩ := HR.out.2.chg hch (fun _ _ _ _ _ h => h) j f hf
        exact ⟨xs, h1, h2, fun _ => rfl⟩
      clear he hrow ho0 hev HR
      go_wp2
      go_loopg [4] e.len (fun q vi wi => ∃ i : Nat, i + q = e.len ∧ vi = .int .i64 (i : Int) ∧ Hid (TxSt O B w wi bk cs (some ⟨tr, 0, none⟩) c es ∧ Fi B wi es k i ∧ Holds wi wO.heap.size 100 #[.slice vA e.len vc, .slice lA ll lc, .int .i64 (e.n : Int)]) ∧ wO.heap.size < wi.heap.size)
      case atStart => exact ⟨0, by omega, rfl, hst0.out, by simp⟩
      case round =>
        obtain ⟨i, hi, rfl, HI, hwi⟩ := hrel
        have x0 := HI.out.2.2.cell 0
        have x2 := HI.out.2.2.cell 2
        by_cases hil : i < e.len
        · obtain ⟨xs, ho, _⟩ := HI.out.2.1 k e HE.out
          rw [HEV.out] at ho
          rcases ho.2 with ⟨hv, h0⟩ | ⟨g, cap, cur, hv, _⟩
          · omega
          injection hv with e1 e2 e3
          subst e1
          subst e3
          obtain ⟨a, ha⟩ : ∃ a, xs[i]? = some a := ⟨_, List.getElem?_eq_getElem (by rw [own_length ho]; exact hil)⟩
          have a0 := own_cell ho ha
          have f0 := own_free ho i
          have hgB : B ≤ g ∧ g < wr.heap.size := by
            rcases ho.2 with ⟨h, _⟩ | ⟨g', cap', cur', hv', hg', hh', _⟩
            · cases h
            · injection hv' with e1
              have : g = g' := by simpa using e1
              subst this
              exact ⟨hg', (Array.getElem?_eq_some_iff.1 hh').1⟩
          have hgO : g < wO.heap.size := HVL.out g rfl
          have hne : wO.heap.size ≠ g := by omega
          have y0 : wr.cell? ⟨wO.heap.size, 0, none⟩ = some (.slice (some ⟨g, 0, none⟩) e.len vc) := x0
          have y2 : wr.cell? ⟨wO.heap.size, 2, none⟩ = some (.int .i64 (e.n : Int)) := x2
          have HTB := Lib.hid HI.out.1.tab
          have HAT := Lib.hid ha
          clear ho
          go_wp2
          refine wp_region_held_drew (S := (fun w' => w'.cell? ⟨wO.heap.size, 0, none⟩ = some (.slice (some ⟨g, 0, none⟩) e.len vc) ∧ w'.cell? ⟨wO.heap.size, 2, none⟩ = some (.int .i64 (e.n : Int)))) (by kernel_rfl) ?_ (fun hHeld0 => ?_)
          · (try dsimp only)
            first | exact ⟨y0, y2⟩ | exact ⟨z0, z2⟩ | exact ⟨u0, u2⟩
          refine wpAnyH_take (i := 0) (oi := ⟨some 28, _, _, _, _, _⟩) (v := ?_) rfl (by kernel_rfl) (by kernel_rfl) (by kernel_rfl) (fun _ _ _ h => h) (Or.inl ⟨by kernel_rfl, ?_⟩) (by assumption) ?_
          rotate_left
          · (intro w hSw; (try dsimp only at hSw); go_simp; (first | done | with_reducible rfl))
          (try simp only [Act.put, List.setIfInBounds_toArray, List.set_cons_zero, List.set_cons_succ])
          refine wpAnyH_take (i := 1) (oi := ⟨some 29, _, _, _, _, _⟩) (v := ?_) rfl (by kernel_rfl) (by kernel_rfl) (by kernel_rfl) (fun _ _ _ h => h) (Or.inl ⟨by kernel_rfl, ?_⟩) (by assumption) ?_
          rotate_left
          · (intro w hSw; (try dsimp only at hSw); go_simp; (first | done | with_reducible rfl))
          (try simp only [Act.put, List.setIfInBounds_toArray, List.set_cons_zero, List.set_cons_succ])
          refine wpAnyH_take (i := 2) (oi := ⟨some 30, _, _, _, _, _⟩) (v := ?_) rfl (by kernel_rfl) (by kernel_rfl) (by kernel_rfl) (fun _ _ _ h => h) (Or.inl ⟨by kernel_rfl, ?_⟩) (by assumption) ?_
          rotate_left
          · (intro w hSw; (try dsimp only at hSw); go_simp; (first | done | with_reducible rfl))
          (try simp only [Act.put, List.setIfInBounds_toArray, List.set_cons_zero, List.set_cons_succ])
          refine wpAnyH_take (i := 3) (oi := ⟨some 31, _, _, _, _, _⟩) (v := ?_) rfl (by kernel_rfl) (by kernel_rfl) (by kernel_rfl) (fun _ _ _ h => h) (Or.inl ⟨by kernel_rfl, ?_⟩) (by assumption) ?_
          rotate_left
          · (intro w hSw; (try dsimp only at hSw); go_simp; (first | done | with_reducible rfl))
          (try simp only [Act.put, List.setIfInBounds_toArray, List.set_cons_zero, List.set_cons_succ])
          refine wpAnyH_take (i := 4) (oi := ⟨some 32, _, _, _, _, _⟩) (v := ?_) rfl (by kernel_rfl) (by kernel_rfl) (by kernel_rfl) (fun _ _ _ h => h) (Or.inl ⟨by kernel_rfl, ?_⟩) (by assumption) ?_
          rotate_left
          · (intro w hSw; (try dsimp only at hSw); go_simp; (first | done | with_reducible rfl))
          (try simp only [Act.put, List.setIfInBounds_toArray, List.set_cons_zero, List.set_cons_succ])
          refine wpAnyH_ready (rs := [5]) (by kernel_rfl) (by simp) ?_
          refine AllReadyH.cons (o := ⟨some 33, _, _, _, _, _⟩) rfl (fun K hK => ?_) AllReadyH.nil
          go_simp
          refine (markText_any e.n (by omega) wr.drew HTB.out).mono ?_
          rintro e' w2 ⟨rfl, hb2⟩
          have hch : Chg wr w2 (fun _ => False) := ((Chg.refl wr (fun _ => False)).drew).trans (Chg.below hb2 (fun _ => False)) (fun _ _ h => h)
          have HI2 : Hid (TxSt O B w w2 bk cs (some ⟨tr, 0, none⟩) c es ∧ Fi B w2 es k i ∧ Holds w2 wO.heap.size 100 #[.slice (some ⟨g, 0, none⟩) e.len vc, .slice lA ll lc, .int .i64 (e.n : Int)]) :=
            ⟨HI.out.1.chg hch (fun _ h => h.elim) (fun h => h) (fun _ _ h => h), HI.out.2.1.chg hch (fun _ _ _ _ _ h => h), hch.holds (fun h => h) HI.out.2.2⟩
          have hs2 := hch.size
          have z0 : w2.cell? ⟨wO.heap.size, 0, none⟩ = some (.slice (some ⟨g, 0, none⟩) e.len vc) := HI2.out.2.2.cell 0
          have z2 : w2.cell? ⟨wO.heap.size, 2, none⟩ = some (.int .i64 (e.n : Int)) := HI2.out.2.2.cell 2
          have a2 : w2.cell? ⟨g, i, none⟩ = some a := hch.cell (fun h => h) a0
          have f2 : w2.frozen? ⟨g, i, none⟩ = false := by
            obtain ⟨xs', ho', _⟩ := HI2.out.2.1 k e HE.out
            rw [HEV.out] at ho'
            exact own_free ho' i
          clear hb2 hch
          go_wp2_with fail
          refine hK.out _ _ ?_ (fun hHeld1 => ?_)
          · (try dsimp only)
            first | exact ⟨y0, y2⟩ | exact ⟨z0, z2⟩ | exact ⟨u0, u2⟩
          clear hK K hHeld0
          (try simp only [Act.put, List.setIfInBounds_toArray, List.set_cons_zero, List.set_cons_succ])
          refine wpAnyH_take (i := 6) (oi := ⟨some 34, _, _, _, _, _⟩) (v := ?_) rfl (by kernel_rfl) (by kernel_rfl) (by kernel_rfl) (fun _ _ _ h => h) (Or.inl ⟨by kernel_rfl, ?_⟩) (by assumption) ?_
          rotate_left
          · (intro w hSw; (try dsimp only at hSw); go_simp; (first | done | with_reducible rfl))
          (try simp only [Act.put, List.setIfInBounds_toArray, List.set_cons_zero, List.set_cons_succ])
          refine wpAnyH_ready (rs := [7]) (by kernel_rfl) (by simp) ?_
          refine AllReadyH.cons rfl (fun K hK => ?_) AllReadyH.nil
          go_simp
          refine name_world2 ?_
          intro w9 hw9
          have HI9 : Hid (TxSt O B w w9 bk cs (some ⟨tr, 0, none⟩) c es ∧ Fi B w9 es k (i + 1) ∧ Holds w9 wO.heap.size 100 #[.slice (some ⟨g, 0, none⟩) e.len vc, .slice lA ll lc, .int .i64 (e.n : Int)]) := by
            rw [hw9]
            have hc := Chg.set w2 ⟨g, i, none⟩ (.string (wordB e.n))
            refine ⟨HI2.out.1.chg hc (fun k' e' => by subst e'; exact ⟨hgB.1, HI2.out.1.offV HE.out (by rw [HEV.out]; rfl)⟩) (fun h => (HI2.out.1.ap k e HE.out).1 (by rw [HEV.out, h]; rfl)) (fun b hb h => (HI2.out.1.ap k e HE.out).2 g (by rw [HEV.out]; rfl) (by rw [hb, h])), Fi.put HI2.out.2.1 HI2.out.1 HE.out HEV.out hil, HI2.out.2.2.far hne _⟩
          have hz9 : w9.heap.size = w2.heap.size := by rw [hw9]; simp [World.setCell]
          have u0 : w9.cell? ⟨wO.heap.size, 0, none⟩ = some (.slice (some ⟨g, 0, none⟩) e.len vc) := HI9.out.2.2.cell 0
          have u2 : w9.cell? ⟨wO.heap.size, 2, none⟩ = some (.int .i64 (e.n : Int)) := HI9.out.2.2.cell 2
          clear hw9
          refine hK.out _ _ ?_ (fun hHeld2 => ?_)
          · (try dsimp only)
            first | exact ⟨y0, y2⟩ | exact ⟨z0, z2⟩ | exact ⟨u0, u2⟩
          clear hK K hHeld1
          (try simp only [Act.put, List.setIfInBounds_toArray, List.set_cons_zero, List.set_cons_succ])
          refine wpAnyH_done (by kernel_rfl) ?_ _
          go_wp2
          go_roundg (gk - 1)
          case measure => omega
          case rel => exact ⟨i + 1, by omega, by go_num, HI9.out, by omega⟩
        · obtain rfl : i = e.len := by omega
          have HFN : Hid (TxSt O B w wr bk cs (some ⟨tr, 0, none⟩) c es ∧ Fl B wr es (k + 1)) := by
            refine ⟨HI.out.1, fun j f hf => ?_⟩
            obtain ⟨xs, h1, h2, h3⟩ := HI.out.2.1 j f hf
            refine ⟨xs, h1, fun hj => ?_⟩
            by_cases hjk : j < k
            · exact h2 hjk
            · obtain rfl : j = k := by omega
              have he := HE.out
              rw [he] at hf
              obtain rfl := Option.some.inj hf
              have h4 := h3 rfl
              rw [List.take_of_length_le (by rw [own_length h1]; exact Nat.le_refl _)] at h4
              exact h4
          clear HI
          go_wp2
          go_roundg (gO - 1)
          case measure => omega
          case rel => exact ⟨k + 1, by omega, by go_num, HFN.out⟩
    · obtain rfl : k = m := by omega
      go_wp2
      go_end0
      exact ⟨rfl, HR.out.1, HR.out.2⟩
end Go.Proofs.YtggnkpblfmjbcaaGreatDoor
namespace Go.Bd
open Go.RowKit
def Near (w : World) (v v' : Value) : Prop := v'.ownBlock = v.ownBlock ∨ v'.ownBlock = some w.heap.size
theorem Near.old {w : World} {v v' : Value} (h : Near w v v') : ∀ b, v'.ownBlock = some b → v.ownBlock = some b ∨ w.heap.size ≤ b := fun b hb => by
  rcases h with h | h
  · exact .inl (h.symm.trans hb)
  · rw [h] at hb; cases hb; exact .inr (Nat.le_refl _)
end Go.Bd
namespace Go.Bd
open Go.RowKit
theorem run_append_stays {P : Program} (w : World) (base : Nat) (t ty e : TypeId) (z : Value) (bytes : Nat) (ht : P.underlying t = some (.slice e)) (hi : (P.info? e).map (fun i => (i.zero, i.size, i.bytes)) = some (some z, 1, bytes)) (hz : z.cells.size = 1)
    (v : Value) (n : Nat) (xs : List Value) (hown : w.ownsRow base e 1 v n xs) (b c : Nat) (u : Value) (hu : w.cell? ⟨b, 0, none⟩ = some u) (h1 : u.oneCell' = true)
    (h63 : n + 1 ≤ maxLen) (hbytes : (n + 1) * bytes ≤ 140737488355328) (hbase : base ≤ w.heap.size) :
    ∃ g cap w', (Builtin.append_ #[t, t] ty #[v, .slice (some ⟨b, 0, none⟩) 1 c]).run P w = .ok (.slice (some ⟨g, 0, none⟩) (n + 1) cap) w' ∧ w'.ownsRow base e 1 (.slice (some ⟨g, 0, none⟩) (n + 1) cap) (n + 1) (xs ++ [u]) ∧
      w.grownBy w' v.ownBlock ∧ (v.ownBlock = some g ∨ g = w.heap.size) ∧ ∀ g0, v.ownBlock = some g0 → ∀ (j : Nat) x, xs[j]? = some x → w'.cell? ⟨g0, j, none⟩ = some x := by
  obtain ⟨i, hi', z1, z2, z3⟩ := info_parts hi
  have hnews : ∀ (j : Nat) x, [u][j]? = some x → w.cell? ((⟨b, 0, none⟩ : Addr).add j) = some x := fun j x hj => by
    match j, hj with
    | 0, hj =>
      simp only [List.getElem?_cons_zero, Option.some.injEq] at hj
      rw [addr_add, hu, hj]
    | j + 1, hj => simp at hj
  have h1' : ∀ x ∈ [u], x.oneCell' = true := fun x hx => by
    rw [List.mem_singleton] at hx; rw [hx]; exact h1
  obtain ⟨v', w', hr, hown', hgrow, hnil, hat⟩ := run_append_own_at (P := P) w base t ty e i z 1 bytes ht hi' z1 z2 z3 hz (by omega) v n xs hown ⟨b, 0, none⟩ 1 c [u] rfl hnews h1' h63 hbytes hbase
  have hform : ∃ g cap, v' = .slice (some ⟨g, 0, none⟩) (n + 1) cap := by
    rcases hown'.2 with ⟨_, h0⟩ | ⟨g, cap, cur, hv, _⟩
    · omega
    · exact ⟨g, cap, hv⟩
  obtain ⟨g, cap, rfl⟩ := hform
  refine ⟨g, cap, w', hr, hown', hgrow, hat.imp (fun h => h.symm) (fun h => by simpa [Value.ownBlock] using h), fun g0 hg0 j x hx => ?_⟩
  rcases hown.2 with ⟨hv, _⟩ | ⟨g1, cap1, cur, hv, hb, hh, hc, hm, hs, htk⟩
  · rw [hv] at hg0; cases hg0
  · subst hv
    have e0 : g1 = g0 := by simpa [Value.ownBlock] using hg0
    subst e0
    by_cases hroom : n + 1 ≤ cap1
    · have hr2 := run_append_room (P := P) (ty := ty) w t e i ht hi' g1 n cap1 cur hh ⟨b, 0, none⟩ 1 c [u] (by rw [z2]; rfl) hnews h1' hroom (by rw [z2, hs]; simp; omega)
      rw [hr] at hr2
      injection hr2 with e1 e2
      injection e1 with e1
      have eg : g = g1 := by simpa using e1
      subst eg
      exact own_cell hown' (by rw [List.getElem?_append_left (List.getElem?_eq_some_iff.1 hx).1]; exact hx)
    · have holds : ∀ (j : Nat) x, xs[j]? = some x → w.cell? ((⟨g1, 0, none⟩ : Addr).add j) = some x := hown.cells (g := g1) rfl
      have hr2 := run_append_grow (P := P) (ty := ty) w t e i z ht hi' z1 ⟨g1, 0, none⟩ n cap1 xs (by rw [z2]; exact hown.1) holds ⟨b, 0, none⟩ 1 c [u] (by rw [z2]; rfl) hnews (by omega) (by unfold maxLen at h63; omega) (growslice_fits (by omega) (by rw [z3]; exact hbytes))
      rw [hr] at hr2
      injection hr2 with e1 e2
      rw [e2]
      have h := holds j x hx
      rw [addr_add] at h
      exact (World.cell?_of_block (heap_alloc_old w.drew _ (Array.getElem?_eq_some_iff.1 hh).1)).trans h
theorem wpList_append_stays {P : Program} (w : World) {ops : Array Oper} {rest : List Oper} {o : Oper} {a : Act} {Q : Exit → Act → World → Prop} (hgd : o.guard = none) (s x : Operand) (t : TypeId)
    (ho : o.op = .call { callee := .builtin .append, args := #[s, x], argTypes := #[t, t] }) (base : Nat) (e : TypeId) (z : Value) (bytes : Nat) (ht : P.underlying t = some (.slice e)) (hi : (P.info? e).map (fun i => (i.zero, i.size, i.bytes)) = some (some z, 1, bytes)) (hz : z.cells.size = 1)
    (v : Value) (n : Nat) (xs : List Value) (hs : a.eval s = v) (hown : w.ownsRow base e 1 v n xs) (b c : Nat) (u : Value) (hx : a.eval x = .slice (some ⟨b, 0, none⟩) 1 c) (hu : w.cell? ⟨b, 0, none⟩ = some u) (h1 : u.oneCell' = true)
    (h63 : n + 1 ≤ maxLen) (hbytes : (n + 1) * bytes ≤ 140737488355328) (hbase : base ≤ w.heap.size)
    (h : ∀ g cap w', w'.ownsRow base e 1 (.slice (some ⟨g, 0, none⟩) (n + 1) cap) (n + 1) (xs ++ [u]) → w.grownBy w' v.ownBlock → (v.ownBlock = some g ∨ g = w.heap.size) →
      (∀ g0, v.ownBlock = some g0 → ∀ (j : Nat) x, xs[j]? = some x → w'.cell? ⟨g0, j, none⟩ = some x) → wpList P ops Q rest (a.put o.dst (.slice (some ⟨g, 0, none⟩) (n + 1) cap)) w') : wpList P ops Q (o :: rest) a w := by
  refine wpList_plain hgd fun K hK => ?_
  obtain ⟨g, cap, w', hr, k2, k3, k4, k5⟩ := run_append_stays (P := P) w base t o.type e z bytes ht hi hz v n xs hown b c u hu h1 h63 hbytes hbase
  unfold Oper.wp execOp
  simp only [ho, resolve, invoke, builtin, Sem.run_bind, Sem.run_pure, Result.andThen_ok, List.map_toArray, List.map_cons, List.map_nil, hs, hx, hr]
  exact hK _ _ (h g cap w' k2 k3 k4 k5)
end Go.Bd
namespace Go.Proofs.YtggnkpblfmjbcaaGreatDoor
open Go.RowKit Go.Bd
theorem text_info : (Tryz.prog.info? 9).map (fun i => (i.zero, i.size, i.bytes)) = some (some (.string ⟨#[]⟩), 1, 16) := by kernel_rfl
structure Gn (W : World) (bk : Nat) (A : Option Addr) (c : Nat) (es : List Ent) (k : Nat) (e : Ent) : Prop where
  old : ∀ b, e.v.ownBlock = some b → ∀ i, i < e.len → W.cell? ⟨b, i, none⟩ = some (.string (wordB e.n))
  lt : ∀ b, e.v.ownBlock = some b → b < W.heap.size
  sl : ∃ vA vc, e.v = .slice vA e.len vc ∧ (0 < e.len → ∃ b, vA = some ⟨b, 0, none⟩)
  new : ∃ g cap, e.lg = .slice (some ⟨g, 0, none⟩) (e.len + 40) cap ∧ (∀ i, i < e.len + 40 → W.cell? ⟨g, i, none⟩ = some (.string (wordB e.n))) ∧ g ≠ bk ∧ (Value.slice A es.length c).ownBlock ≠ some g ∧ ∀ (j : Nat) f, k ≤ j → es[j]? = some f → f.v.ownBlock ≠ some g
def Gl (B : Nat) (W : World) (bk : Nat) (A : Option Addr) (c : Nat) (es : List Ent) (k : Nat) : Prop :=
  ∀ (j : Nat) e, es[j]? = some e → (j < k → Gn W bk A c es k e) ∧ (k ≤ j → W.ownsRow B 9 1 e.v e.len (List.replicate e.len (.string (wordB e.n))))
theorem flat_set : ∀ (es : List Ent) (k : Nat) (e : Ent) (u : Value), es[k]? = some e → (flat es).set (k * 3 + 1) u = flat (es.set k { e with lg := u })
  | [], _, _, _, h => by simp at h
  | f :: r, 0, e, u, h => by
    simp only [List.getElem?_cons_zero, Option.some.injEq] at h
    subst h
    simp [flat, Ent.cells]
  | f :: r, k + 1, e, u, h => by
    have ih := flat_set r k e u (by simpa using h)
    rw [List.set_cons_succ, flat, flat, ← ih, List.set_append_right _ _ (by simp [Ent.cells]; omega)]
    congr 2
    simp [Ent.cells]; omega
section
variable {O : Nat → Option Obj} {B : Nat} {w W W' : World} {bk : Nat} {cs : Array Value} {A : Option Addr} {c : Nat} {es : List Ent} {k : Nat} {e : Ent}
theorem Gn.chg {S : Nat → Prop} (h : Gn W bk A c es k e) (hc : Chg W W' S) (h1 : ∀ b, e.v.ownBlock = some b → ¬ S b) (h2 : ∀ g cap, e.lg = .slice (some ⟨g, 0, none⟩) (e.len + 40) cap → ¬ S g) : Gn W' bk A c es k e where
  old := fun b hb i hi => hc.cell (h1 b hb) (h.old b hb i hi)
  lt := fun b hb => Nat.lt_of_lt_of_le (h.lt b hb) hc.size
  sl := h.sl
  new := by
    obtain ⟨g, cap, e1, e2, e3⟩ := h.new
    exact ⟨g, cap, e1, fun i hi => hc.cell (h2 g cap e1) (e2 i hi), e3⟩
theorem TxSt.store (h : TxSt O B w W bk cs A c es) (he : es[k]? = some e) {tr : Nat} (hA : A = some ⟨tr, 0, none⟩) (lA : Option Addr) (ll lc : Nat) (hlO : ∀ b, (Value.slice lA ll lc).ownBlock = some b → O b = none) :
    TxSt O B w (W.setCell ⟨tr, k * 3 + 1, none⟩ (.slice lA ll lc)) bk cs A c (es.set k { e with lg := .slice lA ll lc }) := by
  subst hA
  have hc := Chg.set W ⟨tr, k * 3 + 1, none⟩ (.slice lA ll lc)
  have hbt : B ≤ tr := (h.row.lt tr rfl).1
  have hkb : tr ≠ bk := fun e => h.bkr (by rw [← e]; rfl)
  have hat : ∀ (i : Nat) f, (es.set k { e with lg := .slice lA ll lc })[i]? = some f → ∃ f0, es[i]? = some f0 ∧ f.v = f0.v ∧ f.n = f0.n ∧ f.len = f0.len ∧ (f.lg = f0.lg ∨ f.lg = .slice lA ll lc) := fun i f hf => by
    rw [List.getElem?_set] at hf
    split at hf
    · rename_i hk
      subst hk
      split at hf
      · obtain rfl := Option.some.inj hf
        exact ⟨e, he, rfl, rfl, rfl, .inr rfl⟩
      · cases hf
    · exact ⟨f, hf, rfl, rfl, rfl, .inl rfl⟩
  refine ⟨h.hb.trans (hc.toBelow (Nat.le_trans h.wB h.hb.size) (fun k e => by rw [e]; exact hbt)), h.wB, h.tab.keep (hc.block _ h.tab.lt (fun hs => by have := h.tabB; have : 0 = tr := hs; omega)), h.tabB, h.bkB, hc.holds (fun e => hkb e.symm) h.hbk, by rw [List.length_set]; exact h.c3, ?_, by rw [List.length_set]; exact h.bkr, ?_, ?_, fun b o ho => (hc.block b (Array.getElem?_eq_some_iff.1 (h.kp b o ho)).1 (fun e' => (h.kd b o ho).2.1 (by have e2 : b = tr := e'; rw [e2]; rfl))).trans (h.kp b o ho), fun b o ho => ⟨(h.kd b o ho).1, by rw [List.length_set]; exact (h.kd b o ho).2.1, fun i f hf => ?_⟩, fun i f b hf hb => ?_, by rw [List.length_set]; exact h.sm.1, ?_⟩
  · rw [List.length_set, ← flat_set es k e _ he]
    exact (World.ownsRow.stored h.row _ _).1
  · intro i f hf
    obtain ⟨f0, h0, e1, _⟩ := hat i f hf
    rw [List.length_set, e1]
    exact h.ap i f0 h0
  · intro i j f g hij hf hg
    obtain ⟨f0, h0, e1, _⟩ := hat i f hf
    obtain ⟨g0, h1, e2, _⟩ := hat j g hg
    rw [e1, e2]
    exact h.un i j f0 g0 hij h0 h1
  · obtain ⟨f0, h0, e1, _⟩ := hat i f hf
    rw [e1]
    exact (h.kd b o ho).2.2 i f0 h0
  · obtain ⟨f0, h0, _, _, _, e4⟩ := hat i f hf
    rcases e4 with e4 | e4
    · exact h.kl i f0 b h0 (by rw [← e4]; exact hb)
    · exact hlO b (by rw [← e4]; exact hb)
  · intro i f hf
    obtain ⟨f0, h0, _, e2, e3, e4⟩ := hat i f hf
    rw [e2, e3]
    obtain ⟨a1, a2, a3⟩ := h.sm.2 i f0 h0
    refine ⟨a1, a2, ?_⟩
    rcases e4 with e4 | e4
    · rw [e4]; exact a3
    · exact ⟨_, _, _, e4⟩
end
end Go.Proofs.YtggnkpblfmjbcaaGreatDoor
namespace Go.Proofs.YtggnkpblfmjbcaaGreatDoor
open Go.RowKit Go.Bd
theorem flat_append : ∀ (es fs : List Ent), flat (es ++ fs) = flat es ++ flat fs
  | [], _ => rfl
  | e :: es, fs => by rw [List.cons_append, flat, flat, flat_append es fs, List.append_assoc]
theorem held_info : (Tryz.prog.info? 100).map (fun i => (i.zero, i.size, i.bytes)) = some (some (.agg #[.slice none 0 0, .slice none 0 0, .int .i64 0]), 3, 56) := by kernel_rfl
section
variable {O : Nat → Option Obj} {B : Nat} {w W W' : World} {bk : Nat} {cs cs' : Array Value} {A : Option Addr} {c : Nat} {es : List Ent}
theorem TxSt.push (h : TxSt O B w W bk cs A c es) (hc : Chg W W' (fun b => b = bk ∨ some b = (Value.slice A es.length c).ownBlock)) (hbk : Holds W' bk 54 cs') {g cap : Nat} (c3 : cs'[3]? = some (.slice (some ⟨g, 0, none⟩) (es.length + 1) cap))
    {v : Value} {n len : Nat} (ho : W'.ownsRow B tH 3 (.slice (some ⟨g, 0, none⟩) (es.length + 1) cap) (es.length + 1) (flat es ++ [v, .slice none 0 0, .int .i64 (n : Int)]))
    (hat : (Value.slice A es.length c).ownBlock = some g ∨ W.heap.size ≤ g) (hlt : ∀ (i : Nat) f b, es[i]? = some f → f.v.ownBlock = some b → b < W.heap.size)
    (hv : ∀ b, v.ownBlock = some b → b < W.heap.size ∧ b ≠ bk ∧ (Value.slice A es.length c).ownBlock ≠ some b ∧ O b = none ∧ ∀ (i : Nat) f, es[i]? = some f → f.v.ownBlock ≠ some b)
    (hn : es.length < 1000000) (hn2 : n ≤ 1000000) (hle : len ≤ 2147483647) :
    TxSt O B w W' bk cs' (some ⟨g, 0, none⟩) cap (es ++ [⟨v, .slice none 0 0, n, len⟩]) := by
  have hsB : ∀ k, (k = bk ∨ some k = (Value.slice A es.length c).ownBlock) → B ≤ k := fun k hk => by
    rcases hk with rfl | hk
    · exact h.bkB
    · exact (h.row.lt k hk.symm).1
  have hbl := h.hbk.lt
  have hgb : g ≠ bk := fun e => by
    rcases hat with h1 | h1
    · exact h.bkr (by rw [h1, e])
    · omega
  have hL : (es ++ [(⟨v, .slice none 0 0, n, len⟩ : Ent)]).length = es.length + 1 := by simp
  have hget : ∀ (i : Nat) f, (es ++ [(⟨v, .slice none 0 0, n, len⟩ : Ent)])[i]? = some f → es[i]? = some f ∨ (i = es.length ∧ f = ⟨v, .slice none 0 0, n, len⟩) := fun i f hf => by
    by_cases hi : i < es.length
    · rw [List.getElem?_append_left hi] at hf; exact .inl hf
    · rw [List.getElem?_append_right (by omega)] at hf
      obtain ⟨h1, h2⟩ := List.getElem?_eq_some_iff.1 hf
      simp at h1 h2
      exact .inr ⟨by omega, h2.symm⟩
  have hoth : ∀ b, b < W.heap.size → (Value.slice A es.length c).ownBlock ≠ some b → b ≠ g := fun b h1 h2 e => by
    rcases hat with h3 | h3
    · exact h2 (by rw [h3, e])
    · omega
  have hO : ∀ (b : Nat) o, O b = some o → b < W.heap.size := fun b o ho => (Array.getElem?_eq_some_iff.1 (h.kp b o ho)).1
  refine ⟨h.hb.trans (hc.toBelow (Nat.le_trans h.wB h.hb.size) hsB), h.wB, h.tab.keep (hc.block _ h.tab.lt (fun hs => by have := hsB _ hs; have := h.tabB; omega)), h.tabB, h.bkB, hbk, by rw [hL]; exact c3, ?_, ?_, ?_, ?_, ?_, ?_, ?_, ?_⟩
  · rw [hL, flat_append]
    exact ho
  · rw [hL]
    exact fun e => hgb (by simpa [Value.ownBlock] using e)
  · intro i f hf
    rw [hL]
    rcases hget i f hf with h1 | ⟨_, rfl⟩
    · refine ⟨(h.ap i f h1).1, fun b hb e => hoth b (hlt i f b h1 hb) ((h.ap i f h1).2 b hb) (by simpa [Value.ownBlock] using e.symm)⟩
    · refine ⟨fun e => (hv bk e).2.1 rfl, fun b hb e => hoth b (hv b hb).1 (hv b hb).2.2.1 (by simpa [Value.ownBlock] using e.symm)⟩
  · intro i j f f' hij hf hf' b hb
    rcases hget i f hf with h1 | ⟨h1, rfl⟩ <;> rcases hget j f' hf' with h2 | ⟨h2, rfl⟩
    · exact h.un i j f f' hij h1 h2 b hb
    · exact fun e => (hv b e).2.2.2.2 i f h1 hb
    · exact fun e => (hv b hb).2.2.2.2 j f' h2 e
    · omega
  · intro b o ho'
    refine (hc.block b (hO b o ho') (fun hs => ?_)).trans (h.kp b o ho')
    rcases hs with hs | hs
    · exact (h.kd b o ho').1 hs
    · exact (h.kd b o ho').2.1 hs.symm
  · intro b o ho'
    rw [hL]
    refine ⟨(h.kd b o ho').1, fun e => hoth b (hO b o ho') (h.kd b o ho').2.1 (by simpa [Value.ownBlock] using e.symm), fun i f hf => ?_⟩
    rcases hget i f hf with h1 | ⟨_, rfl⟩
    · exact (h.kd b o ho').2.2 i f h1
    · exact fun e => by have := (hv b e).2.2.2.1; rw [this] at ho'; cases ho'
  · intro i f b hf hb
    rcases hget i f hf with h1 | ⟨_, rfl⟩
    · exact h.kl i f b h1 hb
    · cases hb
  · refine ⟨by rw [hL]; omega, fun i f hf => ?_⟩
    rcases hget i f hf with h1 | ⟨_, rfl⟩
    · exact h.sm.2 i f h1
    · exact ⟨hn2, hle, _, _, _, rfl⟩
end
set_option maxRecDepth 100000 in
set_option maxHeartbeats 2000000 in
theorem keepText_any {O : Nat → Option Obj} {B : Nat} {w W : World} {bk : Nat} {cs : Array Value} {A : Option Addr} {c : Nat} {es : List Ent} (hs : TxSt O B w W bk cs A c es) {n : Nat} (h0 : cs[0]? = some (.int .i64 (n : Int))) (hn : n < 1000000)
    (vA : Option Addr) (len vc : Nat) (hlt : ∀ (i : Nat) f b, es[i]? = some f → f.v.ownBlock = some b → b < W.heap.size)
    (hv : ∀ b, (Value.slice vA len vc).ownBlock = some b → b < W.heap.size ∧ b ≠ bk ∧ (Value.slice A es.length c).ownBlock ≠ some b ∧ O b = none ∧ ∀ (i : Nat) f, es[i]? = some f → f.v.ownBlock ≠ some b)
    (hl : es.length < 1000000) (hle : len ≤ 2147483647) :
    Calls Tryz.prog 43 #[.pointer (some ⟨bk, 0, none⟩), .slice vA len vc] W fun e W' => e = .returned (.tuple #[]) ∧
      ∃ A' c', TxSt O B w W' bk ((cs.setIfInBounds 0 (.int .i64 ((n + 1 : Nat) : Int))).setIfInBounds 3 (.slice A' (es.length + 1) c')) A' c' (es ++ [⟨.slice vA len vc, .slice none 0 0, n + 1, len⟩]) ∧ Chg W W' (fun b => b = bk ∨ some b = (Value.slice A es.length c).ownBlock) ∧ ∀ b, (Value.slice A' (es.length + 1) c').ownBlock = some b → (Value.slice A es.length c).ownBlock = some b ∨ W.heap.size ≤ b := by
  have b0 := (hs.hbk.cell 0).trans h0
  have f0 := hs.hbk.free 0
  have hbl := hs.hbk.lt
  have hkr := hs.bkr
  have hBW : B ≤ W.heap.size := Nat.le_trans hs.wB hs.hb.size
  obtain ⟨i0, hi0, hz0, hz1, hz2⟩ := info_parts held_info
  have hcsz : 3 < cs.size := (Array.getElem?_eq_some_iff.1 hs.c3).1
  have h1 : Holds (W.setCell ⟨bk, 0, none⟩ (.int .i64 ((n : Int) + 1))) bk 54 (cs.setIfInBounds 0 (.int .i64 ((n : Int) + 1))) := hs.hbk.set 0 _
  have hr1 : (W.setCell ⟨bk, 0, none⟩ (.int .i64 ((n : Int) + 1))).ownsRow B tH 3 (.slice A es.length c) es.length (flat es) := (Chg.set W ⟨bk, 0, none⟩ (.int .i64 ((n : Int) + 1))).owns hs.row (fun b hb e => hkr (by rw [hb, show b = bk from e]))
  have hC1 := Chg.set W ⟨bk, 0, none⟩ (.int .i64 ((n : Int) + 1))
  have hz : (W.setCell ⟨bk, 0, none⟩ (.int .i64 ((n : Int) + 1))).heap.size = W.heap.size := by simp [World.setCell]
  have d0 := h1.cell 0
  have d3 := h1.cell 3
  have f3 := h1.free 3
  rw [Array.getElem?_setIfInBounds_self_of_lt (by omega)] at d0
  rw [Array.getElem?_setIfInBounds_ne (by omega), hs.c3] at d3
  have HS := Lib.hid (And.intro hs (And.intro hlt hv))
  have HR := Lib.hid (And.intro h1 (And.intro hr1 (And.intro hC1 hz)))
  have HZ := Lib.hid (And.intro hi0 (And.intro hz0 (And.intro hz1 hz2)))
  clear hs hlt hv h1 hr1 hC1 h0 hi0 hz0 hz1 hz2 hz
  have hfl := hbl
  go_enter Tryz.func43, Tryz.ntmps43
  go_wp2
  clear b0 f0
  generalize W.setCell ⟨bk, 0, none⟩ (.int .i64 ((n : Int) + 1)) = W1 at HR d0 d3 f3 ⊢
  have hzs : W.heap.size ≤ W1.heap.size := Nat.le_of_eq HR.out.2.2.2.symm
  have hb1 : bk < W1.heap.size := by omega
  have e0 : (W1.alloc (.cells #[.slice vA len vc, .slice none 0 0, .int .i64 ((n : Int) + 1)] 100)).cell? ⟨bk, 0, none⟩ = some (.int .i64 ((n : Int) + 1)) := by rw [World.cell?_alloc_lt _ _ _ hb1]; exact d0
  have e3 : (W1.alloc (.cells #[.slice vA len vc, .slice none 0 0, .int .i64 ((n : Int) + 1)] 100)).cell? ⟨bk, 3, none⟩ = some (.slice A es.length c) := by rw [World.cell?_alloc_lt _ _ _ hb1]; exact d3
  refine wp_region_held_drew (S := (fun w' => w'.cell? ⟨bk, 0, none⟩ = some (.int .i64 ((n : Int) + 1)))) (by kernel_rfl) ?_ (fun hHeld0 => ?_)
  · (try dsimp only)
    first | exact d0 | exact e0 | exact g0 | exact k0
  refine wpAnyH_take (i := 0) (oi := ⟨some 11, _, _, _, _, _⟩) (v := ?_) rfl (by kernel_rfl) (by kernel_rfl) (by kernel_rfl) (fun _ _ _ h => h) (Or.inl ⟨by kernel_rfl, ?_⟩) (by assumption) ?_
  rotate_left
  · (intro w hSw; (try dsimp only at hSw); go_simp; (first | done | with_reducible rfl))
  (try simp only [Act.put, List.setIfInBounds_toArray, List.set_cons_zero, List.set_cons_succ])
  refine wpAnyH_take (i := 1) (oi := ⟨some 12, _, _, _, _, _⟩) (v := ?_) rfl (by kernel_rfl) (by kernel_rfl) (by kernel_rfl) (fun _ _ _ h => h) (Or.inl ⟨by kernel_rfl, ?_⟩) (by assumption) ?_
  rotate_left
  · (intro w hSw; (try dsimp only at hSw); go_simp; (first | done | with_reducible rfl))
  (try simp only [Act.put, List.setIfInBounds_toArray, List.set_cons_zero, List.set_cons_succ])
  refine wpAnyH_take (i := 2) (oi := ⟨some 13, _, _, _, _, _⟩) (v := ?_) rfl (by kernel_rfl) (by kernel_rfl) (by kernel_rfl) (fun _ _ _ h => h) (Or.inl ⟨by kernel_rfl, ?_⟩) (by assumption) ?_
  rotate_left
  · (intro w hSw; (try dsimp only at hSw); go_simp; (first | done | with_reducible rfl))
  (try simp only [Act.put, List.setIfInBounds_toArray, List.set_cons_zero, List.set_cons_succ])
  refine wpAnyH_take (i := 3) (oi := ⟨some 14, _, _, _, _, _⟩) (v := ?_) rfl (by kernel_rfl) (by kernel_rfl) (by kernel_rfl) (fun _ _ _ h => h) (Or.inl ⟨by kernel_rfl, ?_⟩) (by assumption) ?_
  rotate_left
  · (intro w hSw; (try dsimp only at hSw); go_simp; (first | done | with_reducible rfl))
  (try simp only [Act.put, List.setIfInBounds_toArray, List.set_cons_zero, List.set_cons_succ])
  refine wpAnyH_take (i := 5) (oi := ⟨some 16, _, _, _, _, _⟩) (v := ?_) rfl (by kernel_rfl) (by kernel_rfl) (by kernel_rfl) (fun _ _ _ h => h) (Or.inl ⟨by kernel_rfl, ?_⟩) (by assumption) ?_
  rotate_left
  · (intro w hSw; (try dsimp only at hSw); go_simp; (first | done | with_reducible rfl))
  (try simp only [Act.put, List.setIfInBounds_toArray, List.set_cons_zero, List.set_cons_succ])
  refine wpAnyH_take (i := 6) (oi := ⟨some 17, _, _, _, _, _⟩) (v := ?_) rfl (by kernel_rfl) (by kernel_rfl) (by kernel_rfl) (fun _ _ _ h => h) (Or.inl ⟨by kernel_rfl, ?_⟩) (by assumption) ?_
  rotate_left
  · (intro w hSw; (try dsimp only at hSw); go_simp; (first | done | with_reducible rfl))
  (try simp only [Act.put, List.setIfInBounds_toArray, List.set_cons_zero, List.set_cons_succ])
  refine wpAnyH_take (i := 7) (oi := ⟨some 18, _, _, _, _, _⟩) (v := ?_) rfl (by kernel_rfl) (by kernel_rfl) (by kernel_rfl) (fun _ _ _ h => h) (Or.inl ⟨by kernel_rfl, ?_⟩) (by assumption) ?_
  rotate_left
  · (intro w hSw; (try dsimp only at hSw); go_simp; (first | done | with_reducible rfl))
  (try simp only [Act.put, List.setIfInBounds_toArray, List.set_cons_zero, List.set_cons_succ])
  refine wpAnyH_take (i := 8) (oi := ⟨some 19, _, _, _, _, _⟩) (v := ?_) rfl (by kernel_rfl) (by kernel_rfl) (by kernel_rfl) (fun _ _ _ h => h) (Or.inl ⟨by kernel_rfl, ?_⟩) (by assumption) ?_
  rotate_left
  · (intro w hSw; (try dsimp only at hSw); go_simp; (first | done | with_reducible rfl))
  (try simp only [Act.put, List.setIfInBounds_toArray, List.set_cons_zero, List.set_cons_succ])
  refine wpAnyH_take (i := 9) (oi := ⟨some 20, _, _, _, _, _⟩) (v := ?_) rfl (by kernel_rfl) (by kernel_rfl) (by kernel_rfl) (fun _ _ _ h => h) (Or.inl ⟨by kernel_rfl, ?_⟩) (by assumption) ?_
  rotate_left
  · (intro w hSw; (try dsimp only at hSw); go_simp; (first | done | with_reducible rfl))
  (try simp only [Act.put, List.setIfInBounds_toArray, List.set_cons_zero, List.set_cons_succ])
  refine wpAnyH_take (i := 10) (oi := ⟨some 21, _, _, _, _, _⟩) (v := ?_) rfl (by kernel_rfl) (by kernel_rfl) (by kernel_rfl) (fun _ _ _ h => h) (Or.inl ⟨by kernel_rfl, ?_⟩) (by assumption) ?_
  rotate_left
  · (intro w hSw; (try dsimp only at hSw); go_simp; (first | done | with_reducible rfl))
  (try simp only [Act.put, List.setIfInBounds_toArray, List.set_cons_zero, List.set_cons_succ])
  refine wpAnyH_ready (rs := [4, 11]) (by kernel_rfl) (by simp) ?_
  refine AllReadyH.cons (o := ⟨some 15, _, _, _, _, _⟩) rfl (fun K hK => ?_) ?_
  · skip
    go_simp
    refine hK.out _ _ ?_ (fun hHeld1 => ?_)
    · (try dsimp only)
      first | exact d0 | exact e0 | exact g0 | exact k0
    clear hK K hHeld0
    (try simp only [Act.put, List.setIfInBounds_toArray, List.set_cons_zero, List.set_cons_succ])
    refine wpAnyH_ready (rs := [11]) (by kernel_rfl) (by simp) ?_
    refine AllReadyH.cons (o := ⟨some 22, _, _, _, _, _⟩) rfl (fun K hK => ?_) AllReadyH.nil
    go_simp
    refine hK.out _ _ ?_ (fun hHeld2 => ?_)
    · (try dsimp only)
      first | exact d0 | exact e0 | exact g0 | exact k0
    clear hK K hHeld1
    (try simp only [Act.put, List.setIfInBounds_toArray, List.set_cons_zero, List.set_cons_succ])
    refine wpAnyH_ready (rs := [12]) (by kernel_rfl) (by simp) ?_
    refine AllReadyH.cons (o := ⟨some 23, _, _, _, _, _⟩) rfl (fun K hK => ?_) AllReadyH.nil
    refine step_append_lies _ (by rfl) _ _ _ (by rfl) B 100 i0 _ 3 56 Tryz.underlying38 HZ.out.1 HZ.out.2.1 HZ.out.2.2.1 HZ.out.2.2.2 rfl (by omega) (.slice A es.length c) es.length (flat es) (by rfl) ((HR.out.2.1.alloc _).drew)
      ⟨W1.heap.size, 0, none⟩ 1 1 [.slice vA len vc, .slice none 0 0, .int .i64 ((n : Int) + 1)] (by rfl) (by rfl) (World.news_of_block (cs := #[.slice vA len vc, .slice none 0 0, .int .i64 ((n : Int) + 1)]) (t := 100) (fr := (0, 0)) (heap_alloc_new W1 _)) (by simp [Value.oneCell'])
      (by omega) (by unfold maxLen; omega) (by omega) (by simp; omega) (W1.heap.size + 1) (by simp) ?_
    intro g cap w2 ho2 hg2 hat2 hl2
    have hC2 : Chg W1 w2 (fun b => some b = (Value.slice A es.length c).ownBlock) := (((Chg.refl W1 _).alloc _).drew).trans (Chg.grown hg2) (fun _ _ h => h)
    have hgb : g ≠ bk := fun e => by
      rcases hat2 with h | h
      · exact hkr (by rw [h, e])
      · omega
    have hh2 := hC2.holds (fun h => hkr h.symm) HR.out.1
    have g0 := hC2.cell (p := ⟨bk, 0, none⟩) (fun h => hkr h.symm) d0
    have g3 := hC2.cell (p := ⟨bk, 3, none⟩) (fun h => hkr h.symm) d3
    have q3 := hh2.free 3
    have k0 := cell_off (i := 3) (j := 0) (by omega) (.slice (some ⟨g, 0, none⟩) (es.length + 1) cap) g0
    have HE := Lib.hid (And.intro hC2 (And.intro ho2 (And.intro hat2 hh2)))
    clear hC2 ho2 hat2 hh2 hg2
    refine hK.out _ _ ?_ (fun hHeld3 => ?_)
    · (try dsimp only)
      first | exact d0 | exact e0 | exact g0 | exact k0
    clear hK K hHeld2
    (try simp only [Act.put, List.setIfInBounds_toArray, List.set_cons_zero, List.set_cons_succ])
    refine wpAnyH_take (i := 13) (oi := ⟨some 24, _, _, _, _, _⟩) (v := ?_) rfl (by kernel_rfl) (by kernel_rfl) (by kernel_rfl) (fun _ _ _ h => h) (Or.inl ⟨by kernel_rfl, ?_⟩) (by assumption) ?_
    rotate_left
    · (intro w hSw; (try dsimp only at hSw); go_simp; (first | done | with_reducible rfl))
    (try simp only [Act.put, List.setIfInBounds_toArray, List.set_cons_zero, List.set_cons_succ])
    refine wpAnyH_take (i := 14) (oi := ⟨some 25, _, _, _, _, _⟩) (v := ?_) rfl (by kernel_rfl) (by kernel_rfl) (by kernel_rfl) (fun _ _ _ h => h) (Or.inl ⟨by kernel_rfl, ?_⟩) (by assumption) ?_
    rotate_left
    · (intro w hSw; (try dsimp only at hSw); go_simp; (first | done | with_reducible rfl))
    (try simp only [Act.put, List.setIfInBounds_toArray, List.set_cons_zero, List.set_cons_succ])
    refine wpAnyH_ready (rs := [15]) (by kernel_rfl) (by simp) ?_
    refine AllReadyH.cons rfl (fun K hK => ?_) AllReadyH.nil
    go_simp
    refine hK.out _ _ ?_ (fun hHeld4 => ?_)
    · (try dsimp only)
      first | exact d0 | exact e0 | exact g0 | exact k0
    clear hK K hHeld3
    (try simp only [Act.put, List.setIfInBounds_toArray, List.set_cons_zero, List.set_cons_succ])
    refine wpAnyH_done (by kernel_rfl) ?_ _
    go_wp2
    go_end0
    refine ⟨rfl, some ⟨g, 0, none⟩, cap, ?_⟩
    have hC := Chg.set w2 ⟨bk, 3, none⟩ (.slice (some ⟨g, 0, none⟩) (es.length + 1) cap)
    have hall : Chg W (w2.setCell ⟨bk, 3, none⟩ (.slice (some ⟨g, 0, none⟩) (es.length + 1) cap)) (fun b => b = bk ∨ some b = (Value.slice A es.length c).ownBlock) :=
      (HR.out.2.2.1.mono (T := fun b => b = bk ∨ some b = (Value.slice A es.length c).ownBlock) (fun k _ h => .inl h)).trans ((HE.out.1.mono (T := fun b => b = bk ∨ some b = (Value.slice A es.length c).ownBlock) (fun k _ h => .inr h)).trans (hC.mono (T := fun b => b = bk ∨ some b = (Value.slice A es.length c).ownBlock) (fun k _ h => .inl h)) (fun _ _ h => h)) (fun _ _ h => h)
    refine ⟨HS.out.1.push hall (HE.out.2.2.2.set 3 _) ?_ (hC.owns HE.out.2.1 (fun k hk e => hgb ((show g = k from (by simpa [Value.ownBlock] using hk)).trans e))) ?_ HS.out.2.1 HS.out.2.2 hl (by omega) hle, hall, fun b hb => ?_⟩
    · rw [Array.getElem?_setIfInBounds_self_of_lt (by simp; omega)]
    · rcases HE.out.2.2.1 with h | h
      · exact .inl h
      · exact .inr (by omega)
    · have e1 : g = b := by simpa [Value.ownBlock] using hb
      rw [← e1]
      rcases HE.out.2.2.1 with h | h
      · exact .inl h
      · exact .inr (by omega)
  refine AllReadyH.cons (o := ⟨some 22, _, _, _, _, _⟩) rfl (fun K hK => ?_) AllReadyH.nil
  go_simp
  refine hK.out _ _ ?_ (fun hHeld1 => ?_)
  · (try dsimp only)
    first | exact d0 | exact e0 | exact g0 | exact k0
  clear hK K hHeld0
  (try simp only [Act.put, List.setIfInBounds_toArray, List.set_cons_zero, List.set_cons_succ])
  refine wpAnyH_ready (rs := [4]) (by kernel_rfl) (by simp) ?_
  refine AllReadyH.cons (o := ⟨some 15, _, _, _, _, _⟩) rfl (fun K hK => ?_) AllReadyH.nil
  go_simp
  refine hK.out _ _ ?_ (fun hHeld2 => ?_)
  · (try dsimp only)
    first | exact d0 | exact e0 | exact g0 | exact k0
  clear hK K hHeld1
  (try simp only [Act.put, List.setIfInBounds_toArray, List.set_cons_zero, List.set_cons_succ])
  refine wpAnyH_ready (rs := [12]) (by kernel_rfl) (by simp) ?_
  refine AllReadyH.cons (o := ⟨some 23, _, _, _, _, _⟩) rfl (fun K hK => ?_) AllReadyH.nil
  refine step_append_lies _ (by rfl) _ _ _ (by rfl) B 100 i0 _ 3 56 Tryz.underlying38 HZ.out.1 HZ.out.2.1 HZ.out.2.2.1 HZ.out.2.2.2 rfl (by omega) (.slice A es.length c) es.length (flat es) (by rfl) ((HR.out.2.1.alloc _).drew)
    ⟨W1.heap.size, 0, none⟩ 1 1 [.slice vA len vc, .slice none 0 0, .int .i64 ((n : Int) + 1)] (by rfl) (by rfl) (World.news_of_block (cs := #[.slice vA len vc, .slice none 0 0, .int .i64 ((n : Int) + 1)]) (t := 100) (fr := (0, 0)) (heap_alloc_new W1 _)) (by simp [Value.oneCell'])
    (by omega) (by unfold maxLen; omega) (by omega) (by simp; omega) (W1.heap.size + 1) (by simp) ?_
  intro g cap w2 ho2 hg2 hat2 hl2
  have hC2 : Chg W1 w2 (fun b => some b = (Value.slice A es.length c).ownBlock) := (((Chg.refl W1 _).alloc _).drew).trans (Chg.grown hg2) (fun _ _ h => h)
  have hgb : g ≠ bk := fun e => by
    rcases hat2 with h | h
    · exact hkr (by rw [h, e])
    · omega
  have hh2 := hC2.holds (fun h => hkr h.symm) HR.out.1
  have g0 := hC2.cell (p := ⟨bk, 0, none⟩) (fun h => hkr h.symm) d0
  have g3 := hC2.cell (p := ⟨bk, 3, none⟩) (fun h => hkr h.symm) d3
  have q3 := hh2.free 3
  have k0 := cell_off (i := 3) (j := 0) (by omega) (.slice (some ⟨g, 0, none⟩) (es.length + 1) cap) g0
  have HE := Lib.hid (And.intro hC2 (And.intro ho2 (And.intro hat2 hh2)))
  clear hC2 ho2 hat2 hh2 hg2
  refine hK.out _ _ ?_ (fun hHeld3 => ?_)
  · (try dsimp only)
    first | exact d0 | exact e0 | exact g0 | exact k0
  clear hK K hHeld2
  (try simp only [Act.put, List.setIfInBounds_toArray, List.set_cons_zero, List.set_cons_succ])
  refine wpAnyH_take (i := 13) (oi := ⟨some 24, _, _, _, _, _⟩) (v := ?_) rfl (by kernel_rfl) (by kernel_rfl) (by kernel_rfl) (fun _ _ _ h => h) (Or.inl ⟨by kernel_rfl, ?_⟩) (by assumption) ?_
  rotate_left
  · (intro w hSw; (try dsimp only at hSw); go_simp; (first | done | with_reducible rfl))
  (try simp only [Act.put, List.setIfInBounds_toArray, List.set_cons_zero, List.set_cons_succ])
  refine wpAnyH_take (i := 14) (oi := ⟨some 25, _, _, _, _, _⟩) (v := ?_) rfl (by kernel_rfl) (by kernel_rfl) (by kernel_rfl) (fun _ _ _ h => h) (Or.inl ⟨by kernel_rfl, ?_⟩) (by assumption) ?_
  rotate_left
  · (intro w hSw; (try dsimp only at hSw); go_simp; (first | done | with_reducible rfl))
  (try simp only [Act.put, List.setIfInBounds_toArray, List.set_cons_zero, List.set_cons_succ])
  refine wpAnyH_ready (rs := [15]) (by kernel_rfl) (by simp) ?_
  refine AllReadyH.cons rfl (fun K hK => ?_) AllReadyH.nil
  go_simp
  refine hK.out _ _ ?_ (fun hHeld4 => ?_)
  · (try dsimp only)
    first | exact d0 | exact e0 | exact g0 | exact k0
  clear hK K hHeld3
  (try simp only [Act.put, List.setIfInBounds_toArray, List.set_cons_zero, List.set_cons_succ])
  refine wpAnyH_done (by kernel_rfl) ?_ _
  go_wp2
  go_end0
  refine ⟨rfl, some ⟨g, 0, none⟩, cap, ?_⟩
  have hC := Chg.set w2 ⟨bk, 3, none⟩ (.slice (some ⟨g, 0, none⟩) (es.length + 1) cap)
  have hall : Chg W (w2.setCell ⟨bk, 3, none⟩ (.slice (some ⟨g, 0, none⟩) (es.length + 1) cap)) (fun b => b = bk ∨ some b = (Value.slice A es.length c).ownBlock) :=
    (HR.out.2.2.1.mono (T := fun b => b = bk ∨ some b = (Value.slice A es.length c).ownBlock) (fun k _ h => .inl h)).trans ((HE.out.1.mono (T := fun b => b = bk ∨ some b = (Value.slice A es.length c).ownBlock) (fun k _ h => .inr h)).trans (hC.mono (T := fun b => b = bk ∨ some b = (Value.slice A es.length c).ownBlock) (fun k _ h => .inl h)) (fun _ _ h => h)) (fun _ _ h => h)
  refine ⟨HS.out.1.push hall (HE.out.2.2.2.set 3 _) ?_ (hC.owns HE.out.2.1 (fun k hk e => hgb ((show g = k from (by simpa [Value.ownBlock] using hk)).trans e))) ?_ HS.out.2.1 HS.out.2.2 hl (by omega) hle, hall, fun b hb => ?_⟩
  · rw [Array.getElem?_setIfInBounds_self_of_lt (by simp; omega)]
  · rcases HE.out.2.2.1 with h | h
    · exact .inl h
    · exact .inr (by omega)
  · have e1 : g = b := by simpa [Value.ownBlock] using hb
    rw [← e1]
    rcases HE.out.2.2.1 with h | h
    · exact .inl h
    · exact .inr (by omega)
end Go.Proofs.YtggnkpblfmjbcaaGreatDoor
namespace Go.Proofs.YtggnkpblfmjbcaaGreatDoor
open Go.RowKit Go.Bd
structure In (O : Nat → Option Obj) (B : Nat) (w : World) (bk : Nat) (cs : Array Value) (A : Option Addr) (c : Nat) (es : List Ent) (k : Nat) (e : Ent) (hB : Nat) (hcs : Array Value) (i : Nat) (L : Value) (W : World) : Prop where
  tx : TxSt O B w W bk cs A c es
  he : es[k]? = some e
  sl : ∃ vA vc, e.v = .slice vA e.len vc ∧ (0 < e.len → ∃ b, vA = some ⟨b, 0, none⟩)
  done : ∀ (j : Nat) f, es[j]? = some f → (j < k → Gn W bk A c es k f) ∧ (k < j → W.ownsRow B 9 1 f.v f.len (List.replicate f.len (.string (wordB f.n))))
  gB : ∀ (j : Nat) f g cap, es[j]? = some f → j < k → f.lg = .slice (some ⟨g, 0, none⟩) (f.len + 40) cap → g < hB
  own : W.ownsRow B 9 1 L (e.len + i) (List.replicate (e.len + i) (.string (wordB e.n)))
  at' : L.ownBlock = e.v.ownBlock ∨ ∃ g, L.ownBlock = some g ∧ hB < g
  vlt : ∀ (j : Nat) f b, es[j]? = some f → f.v.ownBlock = some b → b < hB
  stay : ∀ b, e.v.ownBlock = some b → ∀ i, i < e.len → W.cell? ⟨b, i, none⟩ = some (.string (wordB e.n))
  hh : Holds W hB tH hcs
  sz : hB < W.heap.size
  bkl : bk < hB
  kl : ∀ (b : Nat) o, O b = some o → b < hB
  rwl : ∀ b, (Value.slice A es.length c).ownBlock = some b → b < hB
section
variable {O : Nat → Option Obj} {B : Nat} {w W W' : World} {bk : Nat} {cs : Array Value} {A : Option Addr} {c : Nat} {es : List Ent} {k : Nat} {e : Ent} {hB : Nat} {hcs : Array Value} {i : Nat} {L : Value}
theorem In.away (h : In O B w bk cs A c es k e hB hcs i L W) {b : Nat} (hb : some b = L.ownBlock) : (B ≤ b ∧ O b = none) ∧ b ≠ hB ∧ b ≠ bk ∧ (Value.slice A es.length c).ownBlock ≠ some b ∧ (∀ (j : Nat) f, j ≠ k → es[j]? = some f → f.v.ownBlock ≠ some b) ∧
    ∀ (j : Nat) f g cap, es[j]? = some f → j < k → f.lg = .slice (some ⟨g, 0, none⟩) (f.len + 40) cap → g ≠ b := by
  have h1 := (h.own.lt b hb.symm).1
  rcases h.at' with h2 | ⟨g, h2, h3⟩
  · rw [h2] at hb
    have h4 := h.vlt k e b h.he hb.symm
    refine ⟨⟨h1, h.tx.offV h.he hb.symm⟩, by omega, fun e' => (h.tx.ap k e h.he).1 (by rw [← hb, e']), fun e' => (h.tx.ap k e h.he).2 b hb.symm e', fun j f hj hf hx => h.tx.un k j e f (fun e => hj e.symm) h.he hf b hb.symm hx, fun j f g cap hf hj hl hg => ?_⟩
    obtain ⟨g', cap', e1, _, _, _, e2⟩ := ((h.done j f hf).1 hj).new
    rw [hl] at e1
    injection e1 with e1
    have e3 : g = g' := by simpa using e1
    exact e2 k e (Nat.le_refl _) h.he (by rw [← hb, ← e3, hg])
  · rw [h2] at hb
    have e0 : b = g := by simpa using hb
    subst e0
    have := h.bkl
    refine ⟨⟨h1, by cases ho : O b with | none => rfl | some o => (have := h.kl b o ho; omega)⟩, by omega, by omega, fun hx => by have := h.rwl b hx; omega, fun j f _ hf hx => by have := h.vlt j f b hf hx; omega, fun j f g cap hf hj hl hg => by have := h.gB j f g cap hf hj hl; omega⟩
theorem In.step (h : In O B w bk cs A c es k e hB hcs i L W) (hc : Chg W W' (fun b => some b = L.ownBlock)) {g cap : Nat}
    (ho : W'.ownsRow B 9 1 (.slice (some ⟨g, 0, none⟩) (e.len + i + 1) cap) (e.len + i + 1) (List.replicate (e.len + i) (.string (wordB e.n)) ++ [.string (wordB e.n)])) (ha : L.ownBlock = some g ∨ W.heap.size ≤ g)
    (hs : ∀ g0, L.ownBlock = some g0 → ∀ (j : Nat) x, (List.replicate (e.len + i) (Value.string (wordB e.n)))[j]? = some x → W'.cell? ⟨g0, j, none⟩ = some x) :
    In O B w bk cs A c es k e hB hcs (i + 1) (.slice (some ⟨g, 0, none⟩) (e.len + i + 1) cap) W' where
  tx := h.tx.chg hc (fun _ hb => (h.away hb).1) (fun hb => (h.away hb).2.2.1 rfl) (fun b hr hb => (h.away hb).2.2.2.1 hr)
  he := h.he
  sl := h.sl
  done := fun j f hf => by
    obtain ⟨d1, d2⟩ := h.done j f hf
    refine ⟨fun hj => (d1 hj).chg hc (fun b hv hb => (h.away hb).2.2.2.2.1 j f (by omega) hf hv) (fun g cap hl hb => (h.away hb).2.2.2.2.2 j f g cap hf hj hl rfl), fun hj => hc.owns (d2 hj) (fun b hv hb => (h.away hb).2.2.2.2.1 j f (by omega) hf hv)⟩
  gB := h.gB
  own := by
    rw [← List.replicate_succ'] at ho
    exact ho
  at' := by
    rcases ha with ha | ha
    · rcases h.at' with h2 | ⟨g', h2, h3⟩
      · exact .inl (by rw [← h2, ha]; rfl)
      · rw [ha] at h2
        have e0 : g = g' := by simpa using h2
        exact .inr ⟨g, rfl, by omega⟩
    · exact .inr ⟨g, rfl, by have := h.sz; omega⟩
  vlt := h.vlt
  stay := fun b hb j hj => by
    by_cases hS : some b = L.ownBlock
    · exact hs b hS.symm j _ (by rw [List.getElem?_replicate, if_pos (by omega)])
    · exact hc.cell hS (h.stay b hb j hj)
  hh := hc.holds (fun hb => (h.away hb).2.1 rfl) h.hh
  sz := Nat.lt_of_lt_of_le h.sz hc.size
  bkl := h.bkl
  kl := h.kl
  rwl := h.rwl
theorem In.done' (h : In O B w bk cs A c es k e hB hcs 40 L W) {tr : Nat} (hA : A = some ⟨tr, 0, none⟩) : ∃ g cap, L = .slice (some ⟨g, 0, none⟩) (e.len + 40) cap ∧
    TxSt O B w (W.setCell ⟨tr, k * 3 + 1, none⟩ L) bk cs A c (es.set k { e with lg := L }) ∧ Gl B (W.setCell ⟨tr, k * 3 + 1, none⟩ L) bk A c (es.set k { e with lg := L }) (k + 1) := by
  obtain ⟨g, cap, hL, _⟩ := own_some h.own (by omega)
  subst hL
  refine ⟨g, cap, rfl, h.tx.store h.he hA _ _ _ (fun b hb => (h.away hb.symm).1.2), ?_⟩
  subst hA
  have hgl := h.away (b := g) rfl
  have hc := Chg.set W ⟨tr, k * 3 + 1, none⟩ (.slice (some ⟨g, 0, none⟩) (e.len + 40) cap)
  have hvt : ∀ (j : Nat) f b, es[j]? = some f → f.v.ownBlock = some b → b ≠ tr := fun j f b hf hb e' => (h.tx.ap j f hf).2 b hb (by rw [e']; rfl)
  have hkl : k < es.length := (List.getElem?_eq_some_iff.1 h.he).1
  intro j f' hf'
  rw [List.getElem?_set] at hf'
  split at hf'
  · rename_i hk
    subst hk
    obtain rfl := Option.some.inj hf'
    refine ⟨fun _ => ⟨fun b hb i hi => hc.cell (hvt k e b h.he hb) (h.stay b hb i hi), fun b hb => Nat.lt_of_lt_of_le (Nat.lt_trans (h.vlt k e b h.he hb) h.sz) hc.size, h.sl, g, cap, rfl, fun i hi => hc.cell (fun e' => hgl.2.2.2.1 (by have e2 : g = tr := e'; rw [e2]; rfl)) (own_cell h.own (by rw [List.getElem?_replicate, if_pos hi])), hgl.2.2.1, by rw [List.length_set]; exact hgl.2.2.2.1, fun j f hj hf => ?_⟩, fun hj => absurd hj (by omega)⟩
    rw [List.getElem?_set, if_neg (by omega)] at hf
    exact hgl.2.2.2.2.1 j f (by omega) hf
  · rename_i hk
    obtain ⟨d1, d2⟩ := h.done j f' hf'
    refine ⟨fun hj => ?_, fun hj => own_far (d2 (by omega)) (fun e' => hvt j f' tr hf' e' rfl) _⟩
    have hj' : j < k := by omega
    have d := (d1 hj').chg hc (fun b hb => hvt j f' b hf' hb) (fun g' cap' hl e' => by
      obtain ⟨g2, cap2, e1, _, _, e3, _⟩ := (d1 hj').new
      rw [hl] at e1
      injection e1 with e1
      have e4 : g' = g2 := by simpa using e1
      exact e3 (by have e2 : g' = tr := e'; rw [← e4, e2]; rfl))
    obtain ⟨g2, cap2, e1, e2, e3, e4, e5⟩ := d.new
    refine ⟨d.old, d.lt, d.sl, g2, cap2, e1, e2, e3, by rw [List.length_set]; exact e4, fun i f hi hf => ?_⟩
    rw [List.getElem?_set, if_neg (by omega)] at hf
    exact e5 i f (by omega) hf
end
end Go.Proofs.YtggnkpblfmjbcaaGreatDoor
namespace Go.Proofs.YtggnkpblfmjbcaaGreatDoor
open Go.RowKit Go.Bd
set_option maxRecDepth 100000 in
set_option maxHeartbeats 4000000 in
theorem lookText_any {O : Nat → Option Obj} {B : Nat} {w W : World} {bk : Nat} {cs : Array Value} {A : Option Addr} {c : Nat} {es : List Ent} (hs : TxSt O B w W bk cs A c es) (hg : Gl B W bk A c es es.length) :
    Calls Tryz.prog 80 #[.pointer (some ⟨bk, 0, none⟩)] W fun e W' => e = .returned (.bool true) ∧ Chg W W' (fun _ => False) := by
  obtain ⟨m, hm⟩ : ∃ m, es.length = m := ⟨_, rfl⟩
  have hm1 : m ≤ 1000000 := by rw [← hm]; exact hs.sm.1
  have HS := Lib.hid (And.intro hs (And.intro hg hm))
  clear hs hg hm
  go_enter Tryz.func80, Tryz.ntmps80
  go_wp2
  go_loopg [3] m (fun q i wr => ∃ (k : Nat), k + q = m ∧ i = .int .i64 (k : Int) ∧ Hid (Chg W wr (fun _ => False)))
  case atStart => exact ⟨0, by omega, rfl, Chg.refl _ _⟩
  case round =>
    obtain ⟨k, hk, rfl, HC⟩ := hrel
    obtain ⟨gO, hgO⟩ : ∃ x, x = gk := ⟨_, rfl⟩
    subst hgO
    obtain ⟨wO, hwO⟩ : ∃ x, x = wr := ⟨_, rfl⟩
    subst hwO
    have HT := Lib.hid (HS.out.1.chg HC.out (fun _ h => h.elim) (fun h => h) (fun _ _ h => h))
    have HM := Lib.hid HS.out.2.2
    have b3 := (HT.out.hbk.cell 3).trans HT.out.c3
    rw [HM.out] at b3
    by_cases hlt : k < m
    · obtain ⟨e, he⟩ : ∃ x, es[k]? = some x := ⟨_, List.getElem?_eq_getElem (by rw [HM.out]; exact hlt)⟩
      have hrow := HT.out.row
      rw [HM.out] at hrow
      rcases hrow.2 with ⟨_, h0⟩ | ⟨tr, tc, cur, hv, _⟩
      · omega
      injection hv with e1 e2 e3
      subst e1
      subst e3
      have r0 := hrow.cells (g := tr) rfl (k * 3 + 0) _ (flat_at he rfl)
      have r1 := hrow.cells (g := tr) rfl (k * 3 + 1) _ (flat_at he rfl)
      have r2 := hrow.cells (g := tr) rfl (k * 3 + 2) _ (flat_at he rfl)
      rw [addr_add] at r0 r1 r2
      rw [Nat.add_zero] at r0
      have HG := Lib.hid ((HS.out.2.1 k e he).1 (by rw [HM.out]; exact hlt))
      obtain ⟨g, cap, hlg, _⟩ := HG.out.new
      obtain ⟨hen, hel, _⟩ := HT.out.sm.2 k e he
      obtain ⟨vA, vc, hev, hvA⟩ := HG.out.sl
      have HVA := Lib.hid hvA
      clear hvA
      rw [hev] at r0
      rw [hlg] at r1
      have HEV := Lib.hid hev
      have HLG := Lib.hid hlg
      have hneq : ((e.len + 40 : Nat) : Int) = (e.len : Int) + 40 := by omega
      clear he hrow hev hlg
      go_wp2
      go_loopg [5] (e.len + 40) (fun q vi wi => ∃ i : Nat, i + q = e.len + 40 ∧ vi = .int .i64 (i : Int) ∧ Hid (Chg W wi (fun _ => False) ∧ Holds wi wO.heap.size 100 #[.slice vA e.len vc, .slice (some ⟨g, 0, none⟩) (e.len + 40) cap, .int .i64 (e.n : Int)]))
      case atStart => exact ⟨0, by omega, rfl, HC.out.alloc _, Holds.new wO _ _⟩
      case round =>
        obtain ⟨i, hi, rfl, HI⟩ := hrel
        have x0 := HI.out.2.cell 0
        have x1 := HI.out.2.cell 1
        have x2 := HI.out.2.cell 2
        by_cases hil : i < e.len + 40
        · have hnext : ∀ w' w2, Hid (Chg W w' (fun _ => False) ∧ Holds w' wO.heap.size 100 #[.slice vA e.len vc, .slice (some ⟨g, 0, none⟩) (e.len + 40) cap, .int .i64 (e.n : Int)]) → Below w'.heap.size w' w2 → Hid (Chg W w2 (fun _ => False) ∧ Holds w2 wO.heap.size 100 #[.slice vA e.len vc, .slice (some ⟨g, 0, none⟩) (e.len + 40) cap, .int .i64 (e.n : Int)]) := fun w' w2 h hb =>
            ⟨h.out.1.trans (Chg.below hb _) (fun _ _ h => h), (Chg.below hb (fun _ => False)).holds (fun h => h) h.out.2⟩
          have htab : ∀ w', Hid (Chg W w' (fun _ => False) ∧ Holds w' wO.heap.size 100 #[.slice vA e.len vc, .slice (some ⟨g, 0, none⟩) (e.len + 40) cap, .int .i64 (e.n : Int)]) → Tab w' := fun w' h => (HS.out.1.chg h.out.1 (fun _ h => h.elim) (fun h => h) (fun _ _ h => h)).tab
          have hcell : ∀ w', Hid (Chg W w' (fun _ => False) ∧ Holds w' wO.heap.size 100 #[.slice vA e.len vc, .slice (some ⟨g, 0, none⟩) (e.len + 40) cap, .int .i64 (e.n : Int)]) → w'.cell? ⟨wO.heap.size, 0, none⟩ = some (.slice vA e.len vc) ∧ w'.cell? ⟨wO.heap.size, 1, none⟩ = some (.slice (some ⟨g, 0, none⟩) (e.len + 40) cap) ∧ w'.cell? ⟨wO.heap.size, 2, none⟩ = some (.int .i64 (e.n : Int)) ∧ w'.cell? ⟨g, i, none⟩ = some (.string (wordB e.n)) := fun w' h => by
            refine ⟨h.out.2.cell 0, h.out.2.cell 1, h.out.2.cell 2, ?_⟩
            obtain ⟨g2, cap2, e1, e2, _⟩ := (HG.out.chg h.out.1 (fun _ _ h => h) (fun _ _ _ h => h)).new
            rw [HLG.out] at e1
            injection e1 with e1
            have e4 : g = g2 := by simpa using e1
            rw [e4]
            exact e2 i hil
          have hK0 : Hid (Chg W wr.drew (fun _ => False) ∧ Holds wr.drew wO.heap.size 100 #[.slice vA e.len vc, .slice (some ⟨g, 0, none⟩) (e.len + 40) cap, .int .i64 (e.n : Int)]) := ⟨HI.out.1.drew, HI.out.2⟩
          clear HI HLG
          have HNX := Lib.hid hnext
          have HTB := Lib.hid htab
          have HCL := Lib.hid hcell
          clear hnext htab hcell
          by_cases hiv : i < e.len
          · obtain ⟨b, rfl⟩ := HVA.out (by omega)
            have hcellv : ∀ w', Hid (Chg W w' (fun _ => False) ∧ Holds w' wO.heap.size 100 #[.slice (some ⟨b, 0, none⟩) e.len vc, .slice (some ⟨g, 0, none⟩) (e.len + 40) cap, .int .i64 (e.n : Int)]) → w'.cell? ⟨b, i, none⟩ = some (.string (wordB e.n)) := fun w' h =>
              (HG.out.chg h.out.1 (fun _ _ h => h) (fun _ _ _ h => h)).old b (by rw [HEV.out]; rfl) i hiv
            have HCV := Lib.hid hcellv
            clear hcellv
            obtain ⟨y0, y1, y2, y3⟩ := HCL.out _ hK0
            have y4 := HCV.out _ hK0
            go_wp2_with fail
            refine wp_region_held_drew (S := (fun w' => w'.cell? ⟨wO.heap.size, 0, none⟩ = some (.slice (some ⟨b, 0, none⟩) e.len vc) ∧ w'.cell? ⟨wO.heap.size, 1, none⟩ = some (.slice (some ⟨g, 0, none⟩) (e.len + 40) cap) ∧ w'.cell? ⟨wO.heap.size, 2, none⟩ = some (.int .i64 (e.n : Int)) ∧ w'.cell? ⟨g, i, none⟩ = some (.string (wordB e.n)) ∧ w'.cell? ⟨b, i, none⟩ = some (.string (wordB e.n)))) (by kernel_rfl) ?_ (fun hHeld0 => ?_)
            · (try dsimp only)
              first | exact ⟨y0, y1, y2, y3, y4⟩ | exact ⟨z0, z1, z2, z3, z4⟩ | exact ⟨u0, u1, u2, u3, u4⟩
            refine wpAnyH_take (i := 0) (oi := ⟨some 37, _, _, _, _, _⟩) (v := ?_) rfl (by kernel_rfl) (by kernel_rfl) (by kernel_rfl) (fun _ _ _ h => h) (Or.inl ⟨by kernel_rfl, ?_⟩) (by assumption) ?_
            rotate_left
            · (intro w hSw; (try dsimp only at hSw); go_simp; (first | done | with_reducible rfl))
            (try simp only [Act.put, List.setIfInBounds_toArray, List.set_cons_zero, List.set_cons_succ])
            refine wpAnyH_take (i := 1) (oi := ⟨some 38, _, _, _, _, _⟩) (v := ?_) rfl (by kernel_rfl) (by kernel_rfl) (by kernel_rfl) (fun _ _ _ h => h) (Or.inl ⟨by kernel_rfl, ?_⟩) (by assumption) ?_
            rotate_left
            · (intro w hSw; (try dsimp only at hSw); go_simp; (first | done | with_reducible rfl))
            (try simp only [Act.put, List.setIfInBounds_toArray, List.set_cons_zero, List.set_cons_succ])
            refine wpAnyH_take (i := 2) (oi := ⟨some 39, _, _, _, _, _⟩) (v := ?_) rfl (by kernel_rfl) (by kernel_rfl) (by kernel_rfl) (fun _ _ _ h => h) (Or.inl ⟨by kernel_rfl, ?_⟩) (by assumption) ?_
            rotate_left
            · (intro w hSw; (try dsimp only at hSw); go_simp; (first | done | with_reducible rfl))
            (try simp only [Act.put, List.setIfInBounds_toArray, List.set_cons_zero, List.set_cons_succ])
            refine wpAnyH_take (i := 3) (oi := ⟨some 40, _, _, _, _, _⟩) (v := ?_) rfl (by kernel_rfl) (by kernel_rfl) (by kernel_rfl) (fun _ _ _ h => h) (Or.inl ⟨by kernel_rfl, ?_⟩) (by assumption) ?_
            rotate_left
            · (intro w hSw; (try dsimp only at hSw); go_simp; (first | done | with_reducible rfl))
            (try simp only [Act.put, List.setIfInBounds_toArray, List.set_cons_zero, List.set_cons_succ])
            refine wpAnyH_take (i := 4) (oi := ⟨some 41, _, _, _, _, _⟩) (v := ?_) rfl (by kernel_rfl) (by kernel_rfl) (by kernel_rfl) (fun _ _ _ h => h) (Or.inl ⟨by kernel_rfl, ?_⟩) (by assumption) ?_
            rotate_left
            · (intro w hSw; (try dsimp only at hSw); go_simp; (first | done | with_reducible rfl))
            (try simp only [Act.put, List.setIfInBounds_toArray, List.set_cons_zero, List.set_cons_succ])
            refine wpAnyH_take (i := 5) (oi := ⟨some 42, _, _, _, _, _⟩) (v := ?_) rfl (by kernel_rfl) (by kernel_rfl) (by kernel_rfl) (fun _ _ _ h => h) (Or.inl ⟨by kernel_rfl, ?_⟩) (by assumption) ?_
            rotate_left
            · (intro w hSw; (try dsimp only at hSw); go_simp; (first | done | with_reducible rfl))
            (try simp only [Act.put, List.setIfInBounds_toArray, List.set_cons_zero, List.set_cons_succ])
            refine wpAnyH_take (i := 6) (oi := ⟨some 43, _, _, _, _, _⟩) (v := ?_) rfl (by kernel_rfl) (by kernel_rfl) (by kernel_rfl) (fun _ _ _ h => h) (Or.inl ⟨by kernel_rfl, ?_⟩) (by assumption) ?_
            rotate_left
            · (intro w hSw; (try dsimp only at hSw); go_simp; (first | done | with_reducible rfl))
            (try simp only [Act.put, List.setIfInBounds_toArray, List.set_cons_zero, List.set_cons_succ])
            refine wpAnyH_ready (rs := [7]) (by kernel_rfl) (by simp) ?_
            refine AllReadyH.cons (o := ⟨some 44, _, _, _, _, _⟩) rfl (fun K hK => ?_) AllReadyH.nil
            go_simp
            refine (isText_any e.n (by omega) _ (HTB.out _ hK0)).mono ?_
            rintro e' w3 ⟨rfl, hb3⟩
            have hK1 := HNX.out _ _ hK0 hb3
            obtain ⟨z0, z1, z2, z3⟩ := HCL.out _ hK1
            have z4 := HCV.out _ hK1
            clear hb3
            go_wp2_with fail
            refine hK.out _ _ ?_ (fun hHeld1 => ?_)
            · (try dsimp only)
              first | exact ⟨y0, y1, y2, y3, y4⟩ | exact ⟨z0, z1, z2, z3, z4⟩ | exact ⟨u0, u1, u2, u3, u4⟩
            clear hK K hHeld0
            (try simp only [Act.put, List.setIfInBounds_toArray, List.set_cons_zero, List.set_cons_succ])
            refine wpAnyH_take (i := 8) (oi := ⟨some 45, _, _, _, _, _⟩) (v := ?_) rfl (by kernel_rfl) (by kernel_rfl) (by kernel_rfl) (fun _ _ _ h => h) (Or.inl ⟨by kernel_rfl, ?_⟩) (by assumption) ?_
            rotate_left
            · (intro w hSw; (try dsimp only at hSw); go_simp; (first | done | with_reducible rfl))
            (try simp only [Act.put, List.setIfInBounds_toArray, List.set_cons_zero, List.set_cons_succ])
            refine wpAnyH_take (i := 9) (oi := ⟨some 46, _, _, _, _, _⟩) (v := ?_) rfl (by kernel_rfl) (by kernel_rfl) (by kernel_rfl) (fun _ _ _ h => h) (Or.inl ⟨by kernel_rfl, ?_⟩) (by assumption) ?_
            rotate_left
            · (intro w hSw; (try dsimp only at hSw); go_simp; (first | done | with_reducible rfl))
            (try simp only [Act.put, List.setIfInBounds_toArray, List.set_cons_zero, List.set_cons_succ])
            refine wpAnyH_take (i := 10) (oi := ⟨some 47, _, _, _, _, _⟩) (v := ?_) rfl (by kernel_rfl) (by kernel_rfl) (by kernel_rfl) (fun _ _ _ h => h) (Or.inl ⟨by kernel_rfl, ?_⟩) (by assumption) ?_
            rotate_left
            · (intro w hSw; (try dsimp only at hSw); go_simp; (first | done | with_reducible rfl))
            (try simp only [Act.put, List.setIfInBounds_toArray, List.set_cons_zero, List.set_cons_succ])
            refine wpAnyH_take (i := 11) (oi := ⟨some 48, _, _, _, _, _⟩) (v := ?_) rfl (by kernel_rfl) (by kernel_rfl) (by kernel_rfl) (fun _ _ _ h => h) (Or.inl ⟨by kernel_rfl, ?_⟩) (by assumption) ?_
            rotate_left
            · (intro w hSw; (try dsimp only at hSw); go_simp; (first | done | with_reducible rfl))
            (try simp only [Act.put, List.setIfInBounds_toArray, List.set_cons_zero, List.set_cons_succ])
            refine wpAnyH_take (i := 12) (oi := ⟨some 49, _, _, _, _, _⟩) (v := ?_) rfl (by kernel_rfl) (by kernel_rfl) (by kernel_rfl) (fun _ _ _ h => h) (Or.inl ⟨by kernel_rfl, ?_⟩) (by assumption) ?_
            rotate_left
            · (intro w hSw; (try dsimp only at hSw); go_simp; (first | done | with_reducible rfl))
            (try simp only [Act.put, List.setIfInBounds_toArray, List.set_cons_zero, List.set_cons_succ])
            refine wpAnyH_take (i := 13) (oi := ⟨some 50, _, _, _, _, _⟩) (v := ?_) rfl (by kernel_rfl) (by kernel_rfl) (by kernel_rfl) (fun _ _ _ h => h) (Or.inl ⟨by kernel_rfl, ?_⟩) (by assumption) ?_
            rotate_left
            · (intro w hSw; (try dsimp only at hSw); go_simp; (first | done | with_reducible rfl))
            (try simp only [Act.put, List.setIfInBounds_toArray, List.set_cons_zero, List.set_cons_succ])
            refine wpAnyH_take (i := 14) (oi := ⟨some 51, _, _, _, _, _⟩) (v := ?_) rfl (by kernel_rfl) (by kernel_rfl) (by kernel_rfl) (fun _ _ _ h => h) (Or.inl ⟨by kernel_rfl, ?_⟩) (by assumption) ?_
            rotate_left
            · (intro w hSw; (try dsimp only at hSw); go_simp; (first | done | with_reducible rfl))
            (try simp only [Act.put, List.setIfInBounds_toArray, List.set_cons_zero, List.set_cons_succ])
            refine wpAnyH_take (i := 15) (oi := ⟨some 52, _, _, _, _, _⟩) (v := ?_) rfl (by kernel_rfl) (by kernel_rfl) (by kernel_rfl) (fun _ _ _ h => h) (Or.inl ⟨by kernel_rfl, ?_⟩) (by assumption) ?_
            rotate_left
            · (intro w hSw; (try dsimp only at hSw); go_simp; (first | done | with_reducible rfl))
            (try simp only [Act.put, List.setIfInBounds_toArray, List.set_cons_zero, List.set_cons_succ])
            refine wpAnyH_take (i := 16) (oi := ⟨some 53, _, _, _, _, _⟩) (v := ?_) rfl (by kernel_rfl) (by kernel_rfl) (by kernel_rfl) (fun _ _ _ h => h) (Or.inl ⟨by kernel_rfl, ?_⟩) (by assumption) ?_
            rotate_left
            · (intro w hSw; (try dsimp only at hSw); go_simp; (first | done | with_reducible rfl))
            (try simp only [Act.put, List.setIfInBounds_toArray, List.set_cons_zero, List.set_cons_succ])
            refine wpAnyH_take (i := 17) (oi := ⟨some 54, _, _, _, _, _⟩) (v := ?_) rfl (by kernel_rfl) (by kernel_rfl) (by kernel_rfl) (fun _ _ _ h => h) (Or.inl ⟨by kernel_rfl, ?_⟩) (by assumption) ?_
            rotate_left
            · (intro w hSw; (try dsimp only at hSw); go_simp; (first | done | with_reducible rfl))
            (try simp only [Act.put, List.setIfInBounds_toArray, List.set_cons_zero, List.set_cons_succ])
            refine wpAnyH_take (i := 18) (oi := ⟨some 55, _, _, _, _, _⟩) (v := ?_) rfl (by kernel_rfl) (by kernel_rfl) (by kernel_rfl) (fun _ _ _ h => h) (Or.inl ⟨by kernel_rfl, ?_⟩) (by assumption) ?_
            rotate_left
            · (intro w hSw; (try dsimp only at hSw); go_simp; (first | done | with_reducible rfl))
            (try simp only [Act.put, List.setIfInBounds_toArray, List.set_cons_zero, List.set_cons_succ])
            refine wpAnyH_take (i := 19) (oi := ⟨some 56, _, _, _, _, _⟩) (v := ?_) rfl (by kernel_rfl) (by kernel_rfl) (by kernel_rfl) (fun _ _ _ h => h) (Or.inl ⟨by kernel_rfl, ?_⟩) (by assumption) ?_
            rotate_left
            · (intro w hSw; (try dsimp only at hSw); go_simp; (first | done | with_reducible rfl))
            (try simp only [Act.put, List.setIfInBounds_toArray, List.set_cons_zero, List.set_cons_succ])
            refine wpAnyH_take (i := 20) (oi := ⟨some 57, _, _, _, _, _⟩) (v := ?_) rfl (by kernel_rfl) (by kernel_rfl) (by kernel_rfl) (fun _ _ _ h => h) (Or.inl ⟨by kernel_rfl, ?_⟩) (by assumption) ?_
            rotate_left
            · (intro w hSw; (try dsimp only at hSw); go_simp; (first | done | with_reducible rfl))
            (try simp only [Act.put, List.setIfInBounds_toArray, List.set_cons_zero, List.set_cons_succ])
            refine wpAnyH_take (i := 21) (oi := ⟨some 58, _, _, _, _, _⟩) (v := ?_) rfl (by kernel_rfl) (by kernel_rfl) (by kernel_rfl) (fun _ _ _ h => h) (Or.inl ⟨by kernel_rfl, ?_⟩) (by assumption) ?_
            rotate_left
            · (intro w hSw; (try dsimp only at hSw); go_simp; (first | done | with_reducible rfl))
            (try simp only [Act.put, List.setIfInBounds_toArray, List.set_cons_zero, List.set_cons_succ])
            refine wpAnyH_take (i := 22) (oi := ⟨some 59, _, _, _, _, _⟩) (v := ?_) rfl (by kernel_rfl) (by kernel_rfl) (by kernel_rfl) (fun _ _ _ h => h) (Or.inl ⟨by kernel_rfl, ?_⟩) (by assumption) ?_
            rotate_left
            · (intro w hSw; (try dsimp only at hSw); go_simp; (first | done | with_reducible rfl))
            (try simp only [Act.put, List.setIfInBounds_toArray, List.set_cons_zero, List.set_cons_succ])
            refine wpAnyH_ready (rs := [23]) (by kernel_rfl) (by simp) ?_
            refine AllReadyH.cons (o := ⟨some 60, _, _, _, _, _⟩) rfl (fun K hK => ?_) AllReadyH.nil
            go_simp
            refine (isText_any e.n (by omega) _ (HTB.out _ hK1)).mono ?_
            rintro e' w4 ⟨rfl, hb4⟩
            have hK2 := HNX.out _ _ hK1 hb4
            obtain ⟨u0, u1, u2, u3⟩ := HCL.out _ hK2
            have u4 := HCV.out _ hK2
            clear hb4
            go_wp2_with fail
            refine hK.out _ _ ?_ (fun hHeld2 => ?_)
            · (try dsimp only)
              first | exact ⟨y0, y1, y2, y3, y4⟩ | exact ⟨z0, z1, z2, z3, z4⟩ | exact ⟨u0, u1, u2, u3, u4⟩
            clear hK K hHeld1
            (try simp only [Act.put, List.setIfInBounds_toArray, List.set_cons_zero, List.set_cons_succ])
            refine wpAnyH_take (i := 24) (oi := ⟨some 61, _, _, _, _, _⟩) (v := ?_) rfl (by kernel_rfl) (by kernel_rfl) (by kernel_rfl) (fun _ _ _ h => h) (Or.inl ⟨by kernel_rfl, ?_⟩) (by assumption) ?_
            rotate_left
            · (intro w hSw; (try dsimp only at hSw); go_simp; (first | done | with_reducible rfl))
            (try simp only [Act.put, List.setIfInBounds_toArray, List.set_cons_zero, List.set_cons_succ])
            refine wpAnyH_take (i := 25) (oi := ⟨some 62, _, _, _, _, _⟩) (v := ?_) rfl (by kernel_rfl) (by kernel_rfl) (by kernel_rfl) (fun _ _ _ h => h) (Or.inl ⟨by kernel_rfl, ?_⟩) (by assumption) ?_
            rotate_left
            · (intro w hSw; (try dsimp only at hSw); go_simp; (first | done | with_reducible rfl))
            (try simp only [Act.put, List.setIfInBounds_toArray, List.set_cons_zero, List.set_cons_succ])
            refine wpAnyH_take (i := 26) (oi := ⟨some 63, _, _, _, _, _⟩) (v := ?_) rfl (by kernel_rfl) (by kernel_rfl) (by kernel_rfl) (fun _ _ _ h => h) (Or.inl ⟨by kernel_rfl, ?_⟩) (by assumption) ?_
            rotate_left
            · (intro w hSw; (try dsimp only at hSw); go_simp; (first | done | with_reducible rfl))
            (try simp only [Act.put, List.setIfInBounds_toArray, List.set_cons_zero, List.set_cons_succ])
            refine wpAnyH_done (by kernel_rfl) ?_ _
            go_wp2
            go_roundg (gk - 1)
            case measure => omega
            case rel => exact ⟨i + 1, by omega, by go_num, hK2.out⟩
          · obtain ⟨y0, y1, y2, y3⟩ := HCL.out _ hK0
            go_wp2_with fail
            refine wp_region_held_drew (S := (fun w' => w'.cell? ⟨wO.heap.size, 0, none⟩ = some (.slice vA e.len vc) ∧ w'.cell? ⟨wO.heap.size, 1, none⟩ = some (.slice (some ⟨g, 0, none⟩) (e.len + 40) cap) ∧ w'.cell? ⟨wO.heap.size, 2, none⟩ = some (.int .i64 (e.n : Int)) ∧ w'.cell? ⟨g, i, none⟩ = some (.string (wordB e.n)))) (by kernel_rfl) ?_ (fun hHeld0 => ?_)
            · (try dsimp only)
              first | exact ⟨y0, y1, y2, y3⟩ | exact ⟨z0, z1, z2, z3⟩
            refine wpAnyH_take (i := 0) (oi := ⟨some 37, _, _, _, _, _⟩) (v := ?_) rfl (by kernel_rfl) (by kernel_rfl) (by kernel_rfl) (fun _ _ _ h => h) (Or.inl ⟨by kernel_rfl, ?_⟩) (by assumption) ?_
            rotate_left
            · (intro w hSw; (try dsimp only at hSw); go_simp; (first | done | with_reducible rfl))
            (try simp only [Act.put, List.setIfInBounds_toArray, List.set_cons_zero, List.set_cons_succ])
            refine wpAnyH_take (i := 1) (oi := ⟨some 38, _, _, _, _, _⟩) (v := ?_) rfl (by kernel_rfl) (by kernel_rfl) (by kernel_rfl) (fun _ _ _ h => h) (Or.inl ⟨by kernel_rfl, ?_⟩) (by assumption) ?_
            rotate_left
            · (intro w hSw; (try dsimp only at hSw); go_simp; (first | done | with_reducible rfl))
            (try simp only [Act.put, List.setIfInBounds_toArray, List.set_cons_zero, List.set_cons_succ])
            refine wpAnyH_take (i := 2) (oi := ⟨some 39, _, _, _, _, _⟩) (v := ?_) rfl (by kernel_rfl) (by kernel_rfl) (by kernel_rfl) (fun _ _ _ h => h) (Or.inl ⟨by kernel_rfl, ?_⟩) (by assumption) ?_
            rotate_left
            · (intro w hSw; (try dsimp only at hSw); go_simp; (first | done | with_reducible rfl))
            (try simp only [Act.put, List.setIfInBounds_toArray, List.set_cons_zero, List.set_cons_succ])
            refine wpAnyH_take (i := 3) (oi := ⟨some 40, _, _, _, _, _⟩) (v := ?_) rfl (by kernel_rfl) (by kernel_rfl) (by kernel_rfl) (fun _ _ _ h => h) (Or.inl ⟨by kernel_rfl, ?_⟩) (by assumption) ?_
            rotate_left
            · (intro w hSw; (try dsimp only at hSw); go_simp; (first | done | with_reducible rfl))
            (try simp only [Act.put, List.setIfInBounds_toArray, List.set_cons_zero, List.set_cons_succ])
            refine wpAnyH_take (i := 4) (oi := ⟨some 41, _, _, _, _, _⟩) (v := ?_) rfl (by kernel_rfl) (by kernel_rfl) (by kernel_rfl) (fun _ _ _ h => h) (Or.inl ⟨by kernel_rfl, ?_⟩) (by assumption) ?_
            rotate_left
            · (intro w hSw; (try dsimp only at hSw); go_simp; (first | done | with_reducible rfl))
            (try simp only [Act.put, List.setIfInBounds_toArray, List.set_cons_zero, List.set_cons_succ])
            refine wpAnyH_take (i := 5) (oi := ⟨some 42, _, _, _, _, _⟩) (v := ?_) rfl (by kernel_rfl) (by kernel_rfl) (by kernel_rfl) (fun _ _ _ h => h) (Or.inl ⟨by kernel_rfl, ?_⟩) (by assumption) ?_
            rotate_left
            · (intro w hSw; (try dsimp only at hSw); go_simp; (first | done | with_reducible rfl))
            (try simp only [Act.put, List.setIfInBounds_toArray, List.set_cons_zero, List.set_cons_succ])
            refine wpAnyH_take (i := 6) (oi := ⟨some 43, _, _, _, _, _⟩) (v := ?_) rfl (by kernel_rfl) (by kernel_rfl) (by kernel_rfl) (fun _ _ _ h => h) (Or.inl ⟨by kernel_rfl, ?_⟩) (by assumption) ?_
            rotate_left
            · (intro w hSw; (try dsimp only at hSw); go_simp; (first | done | with_reducible rfl))
            (try simp only [Act.put, List.setIfInBounds_toArray, List.set_cons_zero, List.set_cons_succ])
            refine wpAnyH_ready (rs := [7]) (by kernel_rfl) (by simp) ?_
            refine AllReadyH.cons (o := ⟨some 44, _, _, _, _, _⟩) rfl (fun K hK => ?_) AllReadyH.nil
            go_simp
            refine (isText_any e.n (by omega) _ (HTB.out _ hK0)).mono ?_
            rintro e' w3 ⟨rfl, hb3⟩
            have hK1 := HNX.out _ _ hK0 hb3
            obtain ⟨z0, z1, z2, z3⟩ := HCL.out _ hK1
            clear hb3
            go_wp2_with fail
            refine hK.out _ _ ?_ (fun hHeld1 => ?_)
            · (try dsimp only)
              first | exact ⟨y0, y1, y2, y3⟩ | exact ⟨z0, z1, z2, z3⟩
            clear hK K hHeld0
            (try simp only [Act.put, List.setIfInBounds_toArray, List.set_cons_zero, List.set_cons_succ])
            refine wpAnyH_take (i := 8) (oi := ⟨some 45, _, _, _, _, _⟩) (v := ?_) rfl (by kernel_rfl) (by kernel_rfl) (by kernel_rfl) (fun _ _ _ h => h) (Or.inl ⟨by kernel_rfl, ?_⟩) (by assumption) ?_
            rotate_left
            · (intro w hSw; (try dsimp only at hSw); go_simp; (first | done | with_reducible rfl))
            (try simp only [Act.put, List.setIfInBounds_toArray, List.set_cons_zero, List.set_cons_succ])
            refine wpAnyH_take (i := 9) (oi := ⟨some 46, _, _, _, _, _⟩) (v := ?_) rfl (by kernel_rfl) (by kernel_rfl) (by kernel_rfl) (fun _ _ _ h => h) (Or.inl ⟨by kernel_rfl, ?_⟩) (by assumption) ?_
            rotate_left
            · (intro w hSw; (try dsimp only at hSw); go_simp; (first | done | with_reducible rfl))
            (try simp only [Act.put, List.setIfInBounds_toArray, List.set_cons_zero, List.set_cons_succ])
            refine wpAnyH_take (i := 10) (oi := ⟨some 47, _, _, _, _, _⟩) (v := ?_) rfl (by kernel_rfl) (by kernel_rfl) (by kernel_rfl) (fun _ _ _ h => h) (Or.inl ⟨by kernel_rfl, ?_⟩) (by assumption) ?_
            rotate_left
            · (intro w hSw; (try dsimp only at hSw); go_simp; (first | done | with_reducible rfl))
            (try simp only [Act.put, List.setIfInBounds_toArray, List.set_cons_zero, List.set_cons_succ])
            refine wpAnyH_take (i := 11) (oi := ⟨some 48, _, _, _, _, _⟩) (v := ?_) rfl (by kernel_rfl) (by kernel_rfl) (by kernel_rfl) (fun _ _ _ h => h) (Or.inl ⟨by kernel_rfl, ?_⟩) (by assumption) ?_
            rotate_left
            · (intro w hSw; (try dsimp only at hSw); go_simp; (first | done | with_reducible rfl))
            (try simp only [Act.put, List.setIfInBounds_toArray, List.set_cons_zero, List.set_cons_succ])
            refine wpAnyH_take (i := 12) (oi := ⟨some 49, _, _, _, _, _⟩) (v := ?_) rfl (by kernel_rfl) (by kernel_rfl) (by kernel_rfl) (fun _ _ _ h => h) (Or.inl ⟨by kernel_rfl, ?_⟩) (by assumption) ?_
            rotate_left
            · (intro w hSw; (try dsimp only at hSw); go_simp; (first | done | with_reducible rfl))
            (try simp only [Act.put, List.setIfInBounds_toArray, List.set_cons_zero, List.set_cons_succ])
            refine wpAnyH_take (i := 13) (oi := ⟨some 50, _, _, _, _, _⟩) (v := ?_) rfl (by kernel_rfl) (by kernel_rfl) (by kernel_rfl) (fun _ _ _ h => h) (Or.inl ⟨by kernel_rfl, ?_⟩) (by assumption) ?_
            rotate_left
            · (intro w hSw; (try dsimp only at hSw); go_simp; (first | done | with_reducible rfl))
            (try simp only [Act.put, List.setIfInBounds_toArray, List.set_cons_zero, List.set_cons_succ])
            refine wpAnyH_take (i := 14) (oi := ⟨some 51, _, _, _, _, _⟩) (v := ?_) rfl (by kernel_rfl) (by kernel_rfl) (by kernel_rfl) (fun _ _ _ h => h) (Or.inl ⟨by kernel_rfl, ?_⟩) (by assumption) ?_
            rotate_left
            · (intro w hSw; (try dsimp only at hSw); go_simp; (first | done | with_reducible rfl))
            (try simp only [Act.put, List.setIfInBounds_toArray, List.set_cons_zero, List.set_cons_succ])
            refine wpAnyH_take (i := 15) (oi := ⟨some 52, _, _, _, _, _⟩) (v := ?_) rfl (by kernel_rfl) (by kernel_rfl) (by kernel_rfl) (fun _ _ _ h => h) (Or.inl ⟨by kernel_rfl, ?_⟩) (by assumption) ?_
            rotate_left
            · (intro w hSw; (try dsimp only at hSw); go_simp; (first | done | with_reducible rfl))
            (try simp only [Act.put, List.setIfInBounds_toArray, List.set_cons_zero, List.set_cons_succ])
            refine wpAnyH_take (i := 16) (oi := ⟨some 53, _, _, _, _, _⟩) (v := undef) rfl (by kernel_rfl) (by kernel_rfl) (by kernel_rfl) (fun _ _ _ h => h) (Or.inr ⟨by kernel_rfl, rfl⟩) (by assumption) ?_
            (try simp only [Act.put, List.setIfInBounds_toArray, List.set_cons_zero, List.set_cons_succ])
            refine wpAnyH_take (i := 17) (oi := ⟨some 54, _, _, _, _, _⟩) (v := undef) rfl (by kernel_rfl) (by kernel_rfl) (by kernel_rfl) (fun _ _ _ h => h) (Or.inr ⟨by kernel_rfl, rfl⟩) (by assumption) ?_
            (try simp only [Act.put, List.setIfInBounds_toArray, List.set_cons_zero, List.set_cons_succ])
            refine wpAnyH_take (i := 18) (oi := ⟨some 55, _, _, _, _, _⟩) (v := undef) rfl (by kernel_rfl) (by kernel_rfl) (by kernel_rfl) (fun _ _ _ h => h) (Or.inr ⟨by kernel_rfl, rfl⟩) (by assumption) ?_
            (try simp only [Act.put, List.setIfInBounds_toArray, List.set_cons_zero, List.set_cons_succ])
            refine wpAnyH_take (i := 19) (oi := ⟨some 56, _, _, _, _, _⟩) (v := undef) rfl (by kernel_rfl) (by kernel_rfl) (by kernel_rfl) (fun _ _ _ h => h) (Or.inr ⟨by kernel_rfl, rfl⟩) (by assumption) ?_
            (try simp only [Act.put, List.setIfInBounds_toArray, List.set_cons_zero, List.set_cons_succ])
            refine wpAnyH_take (i := 20) (oi := ⟨some 57, _, _, _, _, _⟩) (v := undef) rfl (by kernel_rfl) (by kernel_rfl) (by kernel_rfl) (fun _ _ _ h => h) (Or.inr ⟨by kernel_rfl, rfl⟩) (by assumption) ?_
            (try simp only [Act.put, List.setIfInBounds_toArray, List.set_cons_zero, List.set_cons_succ])
            refine wpAnyH_take (i := 21) (oi := ⟨some 58, _, _, _, _, _⟩) (v := undef) rfl (by kernel_rfl) (by kernel_rfl) (by kernel_rfl) (fun _ _ _ h => h) (Or.inr ⟨by kernel_rfl, rfl⟩) (by assumption) ?_
            (try simp only [Act.put, List.setIfInBounds_toArray, List.set_cons_zero, List.set_cons_succ])
            refine wpAnyH_take (i := 22) (oi := ⟨some 59, _, _, _, _, _⟩) (v := undef) rfl (by kernel_rfl) (by kernel_rfl) (by kernel_rfl) (fun _ _ _ h => h) (Or.inr ⟨by kernel_rfl, rfl⟩) (by assumption) ?_
            (try simp only [Act.put, List.setIfInBounds_toArray, List.set_cons_zero, List.set_cons_succ])
            refine wpAnyH_take (i := 23) (oi := ⟨some 60, _, _, _, _, _⟩) (v := undef) rfl (by kernel_rfl) (by kernel_rfl) (by kernel_rfl) (fun _ _ _ h => h) (Or.inr ⟨by kernel_rfl, rfl⟩) (by assumption) ?_
            (try simp only [Act.put, List.setIfInBounds_toArray, List.set_cons_zero, List.set_cons_succ])
            refine wpAnyH_take (i := 24) (oi := ⟨some 61, _, _, _, _, _⟩) (v := undef) rfl (by kernel_rfl) (by kernel_rfl) (by kernel_rfl) (fun _ _ _ h => h) (Or.inr ⟨by kernel_rfl, rfl⟩) (by assumption) ?_
            (try simp only [Act.put, List.setIfInBounds_toArray, List.set_cons_zero, List.set_cons_succ])
            refine wpAnyH_take (i := 25) (oi := ⟨some 62, _, _, _, _, _⟩) (v := ?_) rfl (by kernel_rfl) (by kernel_rfl) (by kernel_rfl) (fun _ _ _ h => h) (Or.inl ⟨by kernel_rfl, ?_⟩) (by assumption) ?_
            rotate_left
            · (intro w hSw; (try dsimp only at hSw); go_simp; (first | done | with_reducible rfl))
            (try simp only [Act.put, List.setIfInBounds_toArray, List.set_cons_zero, List.set_cons_succ])
            refine wpAnyH_take (i := 26) (oi := ⟨some 63, _, _, _, _, _⟩) (v := ?_) rfl (by kernel_rfl) (by kernel_rfl) (by kernel_rfl) (fun _ _ _ h => h) (Or.inl ⟨by kernel_rfl, ?_⟩) (by assumption) ?_
            rotate_left
            · (intro w hSw; (try dsimp only at hSw); go_simp; (first | done | with_reducible rfl))
            (try simp only [Act.put, List.setIfInBounds_toArray, List.set_cons_zero, List.set_cons_succ])
            refine wpAnyH_done (by kernel_rfl) ?_ _
            go_wp2
            go_roundg (gk - 1)
            case measure => omega
            case rel => exact ⟨i + 1, by omega, by go_num, hK1.out⟩
        · obtain rfl : i = e.len + 40 := by omega
          go_wp2
          go_roundg (gO - 1)
          case measure => omega
          case rel => exact ⟨k + 1, by omega, by go_num, HI.out.1⟩
    · obtain rfl : k = m := by omega
      go_wp2
      go_ret
      exact ⟨rfl, HC.out⟩
end Go.Proofs.YtggnkpblfmjbcaaGreatDoor
namespace Go.Proofs.YtggnkpblfmjbcaaGreatDoor
open Go.RowKit Go.Bd
set_option maxRecDepth 100000 in
set_option maxHeartbeats 4000000 in
theorem growText_any {O : Nat → Option Obj} {B : Nat} {w W : World} {bk : Nat} {cs : Array Value} {A : Option Addr} {c : Nat} {es : List Ent} (hs : TxSt O B w W bk cs A c es) (hf : Fl B W es es.length) :
    Calls Tryz.prog 63 #[.pointer (some ⟨bk, 0, none⟩)] W fun e W' => e = .returned (.tuple #[]) ∧ ∃ es', es'.length = es.length ∧ TxSt O B w W' bk cs A c es' ∧ Gl B W' bk A c es' es'.length := by
  obtain ⟨m, hm⟩ : ∃ m, es.length = m := ⟨_, rfl⟩
  have hgl0 : Gl B W bk A c es 0 := fun j e he => by
    obtain ⟨xs, h1, h2⟩ := hf j e he
    refine ⟨fun h => absurd h (by omega), fun _ => ?_⟩
    rw [← h2 (List.getElem?_eq_some_iff.1 he).1]
    exact h1
  have HS := Lib.hid (And.intro hs (And.intro hgl0 hm))
  have hm1 : m ≤ 1000000 := by rw [← hm]; exact hs.sm.1
  rw [hm]
  clear hs hf hgl0 hm
  go_enter Tryz.func63, Tryz.ntmps63
  go_wp2
  go_loopg [2] m (fun q i wr => ∃ (k : Nat) (es : List Ent), k + q = m ∧ i = .int .i64 (k : Int) ∧ Hid (TxSt O B w wr bk cs A c es ∧ Gl B wr bk A c es k ∧ es.length = m))
  case atStart => exact ⟨0, es, by omega, rfl, HS.out⟩
  case round =>
    clear HS
    obtain ⟨k, es, hk, rfl, HR⟩ := hrel
    obtain ⟨gO, hgO⟩ : ∃ x, x = gk := ⟨_, rfl⟩
    subst hgO
    obtain ⟨wO, hwO⟩ : ∃ x, x = wr := ⟨_, rfl⟩
    subst hwO
    have HM := Lib.hid HR.out.2.2
    have b3 := (HR.out.1.hbk.cell 3).trans HR.out.1.c3
    rw [HM.out] at b3
    by_cases hlt : k < m
    · obtain ⟨e, he⟩ : ∃ x, es[k]? = some x := ⟨_, List.getElem?_eq_getElem (by rw [HM.out]; exact hlt)⟩
      have hrow := HR.out.1.row
      rw [HM.out] at hrow
      rcases hrow.2 with ⟨_, h0⟩ | ⟨tr, tc, cur, hv, _⟩
      · omega
      injection hv with e1 e2 e3
      subst e1
      subst e3
      have r0 := hrow.cells (g := tr) rfl (k * 3 + 0) _ (flat_at he rfl)
      have r1 := hrow.cells (g := tr) rfl (k * 3 + 1) _ (flat_at he rfl)
      have r2 := hrow.cells (g := tr) rfl (k * 3 + 2) _ (flat_at he rfl)
      rw [addr_add] at r0 r1 r2
      rw [Nat.add_zero] at r0
      have ho0 := (HR.out.2.1 k e he).2 (Nat.le_refl _)
      obtain ⟨vA, vc, hev, hvc⟩ := own_slice ho0
      obtain ⟨hen, hel, lA, ll, lc, hlg⟩ := HR.out.1.sm.2 k e he
      rw [hev] at r0
      rw [hlg] at r1
      have HEV := Lib.hid hev
      have hst0 : Hid (In O B w bk cs (some ⟨tr, 0, none⟩) c es k e wO.heap.size #[.slice vA e.len vc, .slice lA ll lc, .int .i64 (e.n : Int)] 0 (.slice vA e.len vc) (wO.alloc (.cells #[.slice vA e.len vc, .slice lA ll lc, .int .i64 (e.n : Int)] 100))) := by
        have hch := (Chg.refl wO (fun _ => False)).alloc (.cells #[.slice vA e.len vc, .slice lA ll lc, .int .i64 (e.n : Int)] 100)
        refine ⟨HR.out.1.chg hch (fun _ h => h.elim) (fun h => h) (fun _ _ h => h), he, ⟨vA, vc, hev, fun h0 => by obtain ⟨g, cap, e1, _⟩ := own_some ho0 h0; rw [hev] at e1; injection e1 with e1; exact ⟨g, e1⟩⟩, fun j f hf => ⟨fun hj => ((HR.out.2.1 j f hf).1 hj).chg hch (fun _ _ h => h) (fun _ _ _ h => h), fun hj => hch.owns ((HR.out.2.1 j f hf).2 (by omega)) (fun _ _ h => h)⟩, fun j f g cap hf hj hl => ?_, ?_, .inl (by rw [hev]), fun j f b hf hb => ?_, fun b hb i hi => ?_, Holds.new wO _ _, by simp, HR.out.1.hbk.lt, fun b o ho => (Array.getElem?_eq_some_iff.1 (HR.out.1.kp b o ho)).1, fun b hb => (HR.out.1.row.lt b hb).2⟩
        · obtain ⟨g2, cap2, e1, e2, _⟩ := ((HR.out.2.1 j f hf).1 hj).new
          rw [hl] at e1
          injection e1 with e1
          have e4 : g = g2 := by simpa using e1
          rw [e4]
          exact World.block_lt_of_cell? _ _ (e2 0 (by omega))
        · have h := hch.owns ho0 (fun _ _ h => h)
          rw [hev] at h
          exact h
        · by_cases hj : j < k
          · exact ((HR.out.2.1 j f hf).1 hj).lt b hb
          · exact ((HR.out.2.1 j f hf).2 (by omega)).lt b hb |>.2
        · have h := hch.owns ho0 (fun _ _ h => h)
          obtain ⟨g, cap, e1, _⟩ := own_some h (by omega)
          rw [e1] at h hb
          have e4 : g = b := by simpa [Value.ownBlock] using hb
          subst e4
          exact own_cell h (by rw [List.getElem?_replicate, if_pos hi])
      clear he hrow ho0 hev HR
      go_wp2
      go_loopg [4, 5] 40 (fun q L vi wi => ∃ (i : Nat) (LA : Option Addr) (lc' : Nat), i + q = 40 ∧ vi = .int .i64 (i : Int) ∧ L = .slice LA (e.len + i) lc' ∧ Hid (In O B w bk cs (some ⟨tr, 0, none⟩) c es k e wO.heap.size #[.slice vA e.len vc, .slice lA ll lc, .int .i64 (e.n : Int)] i (.slice LA (e.len + i) lc') wi))
      case atStart => exact ⟨0, vA, vc, by omega, rfl, rfl, hst0.out⟩
      case round =>
        clear hst0
        obtain ⟨i, LA, lc', hi, rfl, rfl, HI⟩ := hrel
        by_cases hil : i < 40
        · have y2 : wr.cell? ⟨wO.heap.size, 2, none⟩ = some (.int .i64 (e.n : Int)) := HI.out.hh.cell 2
          go_wp2_with fail
          refine (markText_any e.n (by omega) wr HI.out.tx.tab).mono ?_
          rintro e' w2 ⟨rfl, hb2⟩
          have hch := Chg.below hb2 (fun _ => False)
          have hown := hch.owns HI.out.own (fun _ _ h => h)
          have hBs : B ≤ w2.heap.size := Nat.le_trans (Nat.le_trans HI.out.tx.wB HI.out.tx.hb.size) hch.size
          have HH := Lib.hid (And.intro hch (And.intro hown hBs))
          clear hb2 hch hown hBs
          go_wp2_with (at_builtin; refine wpList_append_stays _ rfl _ _ 34 rfl B 9 (.string ⟨#[]⟩) 16 Tryz.underlying34 text_info rfl _ (e.len + i) _ rfl (HH.out.2.1.alloc _) _ 1 (.string (wordB e.n)) rfl (by simp) rfl (by unfold maxLen; omega) (by omega) (by have := HH.out.2.2; simp; omega) ?_)
          intro g cap w3 ho3 hg3 ha3 hs3
          have HI3 : Hid (In O B w bk cs (some ⟨tr, 0, none⟩) c es k e wO.heap.size #[.slice vA e.len vc, .slice lA ll lc, .int .i64 (e.n : Int)] (i + 1) (.slice (some ⟨g, 0, none⟩) (e.len + i + 1) cap) w3) := by
            have hc3 : Chg wr w3 (fun b => some b = (Value.slice LA (e.len + i) lc').ownBlock) :=
              ((HH.out.1.mono (fun _ _ h => h.elim)).alloc _).trans (Chg.grown hg3) (fun _ _ h => h)
            refine HI.out.step hc3 ho3 (ha3.imp (fun h => h) (fun h => ?_)) hs3
            have := HH.out.1.size
            rw [h]; simp; omega
          clear ho3 hg3 ha3 hs3 HI HH
          go_wp2
          go_roundg (gk - 1)
          case measure => omega
          case rel => exact ⟨i + 1, _, cap, by omega, by go_num, by rfl, HI3.out⟩
        · obtain rfl : i = 40 := by omega
          obtain ⟨g, cap, hL, hT, hG⟩ := HI.out.done' rfl
          have b3' := (HI.out.tx.hbk.cell 3).trans HI.out.tx.c3
          rw [HM.out] at b3'
          injection hL with e1 _ e3
          subst e1
          subst e3
          have rr := HI.out.tx.row.cells (g := tr) rfl (k * 3 + 1) _ (flat_at HI.out.he rfl)
          rw [addr_add] at rr
          have rf : wr.frozen? ⟨tr, k * 3 + 1, none⟩ = false := by
            rcases HI.out.tx.row.2 with ⟨h, _⟩ | ⟨g', cap', cur', hv', _, hh', _⟩
            · cases h
            · injection hv' with e1
              have e4 : tr = g' := by simpa using e1
              subst e4
              exact frozen_of_row _ _ _ _ _ hh'
          have HF := Lib.hid (And.intro hT (And.intro hG (show (es.set k { e with lg := .slice (some ⟨g, 0, none⟩) (e.len + 40) lc' }).length = m by rw [List.length_set]; exact HM.out)))
          clear HI hT hG
          go_wp2
          go_roundg (gO - 1)
          case measure => omega
          case rel => exact ⟨k + 1, _, by omega, by go_num, HF.out⟩
    · obtain rfl : k = m := by omega
      go_wp2
      go_end0
      exact ⟨rfl, es, HM.out, HR.out.1, by rw [HM.out]; exact HR.out.2.1⟩
end Go.Proofs.YtggnkpblfmjbcaaGreatDoor
namespace Go.Proofs.YtggnkpblfmjbcaaGreatDoor.ByteB
open Go.RowKit Go.Bd
def bmark (n : Nat) : Int := 1 + (n : Int) % 250
theorem markByte_any (n : Nat) (hn : n ≤ 1000000000) (w : World) (ht : Tab w) :
    Calls Tryz.prog 102 #[.int .i64 (n : Int)] w fun e w' => e = .returned (.int .u8 (bmark n)) ∧ Below w.heap.size w w' := by
  clear ht
  unfold bmark
  go_enter Tryz.func102, Tryz.ntmps102
  go_wp2
  go_ret
  exact ⟨rfl, Below.refl _ _⟩
theorem isByte_any (n : Nat) (hn : n ≤ 1000000000) (w : World) (ht : Tab w) :
    Calls Tryz.prog 119 #[.int .u8 (bmark n), .int .i64 (n : Int)] w fun e w' => e = .returned (.bool true) ∧ Below w.heap.size w w' := by
  clear ht
  unfold bmark
  go_enter Tryz.func119, Tryz.ntmps119
  go_wp2
  go_ret
  exact ⟨by simp, Below.refl _ _⟩
end Go.Proofs.YtggnkpblfmjbcaaGreatDoor.ByteB
namespace Go.Proofs.YtggnkpblfmjbcaaGreatDoor.ByteB
open Go.RowKit Go.Bd
def tH : TypeId := 98
structure TxSt (O : Nat → Option Obj) (B : Nat) (w W : World) (bk : Nat) (cs : Array Value) (A : Option Addr) (c : Nat) (es : List Ent) : Prop where
  hb : Below B w W
  wB : B ≤ w.heap.size
  tab : Tab W
  tabB : 0 < B
  bkB : B ≤ bk
  hbk : Holds W bk 54 cs
  c3 : cs[1]? = some (.slice A es.length c)
  row : W.ownsRow B tH 3 (.slice A es.length c) es.length (flat es)
  bkr : (Value.slice A es.length c).ownBlock ≠ some bk
  ap : ∀ (i : Nat) e, es[i]? = some e → e.v.ownBlock ≠ some bk ∧ ∀ b, e.v.ownBlock = some b → (Value.slice A es.length c).ownBlock ≠ some b
  un : ∀ (i j : Nat) e f, i ≠ j → es[i]? = some e → es[j]? = some f → ∀ b, e.v.ownBlock = some b → f.v.ownBlock ≠ some b
  kp : ∀ (b : Nat) o, O b = some o → W.heap[b]? = some o
  kd : ∀ (b : Nat) o, O b = some o → b ≠ bk ∧ (Value.slice A es.length c).ownBlock ≠ some b ∧ ∀ (i : Nat) e, es[i]? = some e → e.v.ownBlock ≠ some b
  kl : ∀ (i : Nat) e b, es[i]? = some e → e.lg.ownBlock = some b → O b = none
  sm : es.length ≤ 1000000 ∧ ∀ (i : Nat) e, es[i]? = some e → e.n ≤ 1000000 ∧ e.len ≤ 2147483647 ∧ ∃ lA ll lc, e.lg = .slice lA ll lc
section
variable {O : Nat → Option Obj} {B : Nat} {w W W' : World} {bk : Nat} {cs : Array Value} {A : Option Addr} {c : Nat} {es : List Ent}
theorem TxSt.offV (h : TxSt O B w W bk cs A c es) {i b : Nat} {e : Ent} (he : es[i]? = some e) (hb : e.v.ownBlock = some b) : O b = none := by
  cases ho : O b with
  | none => rfl
  | some o => exact absurd hb ((h.kd b o ho).2.2 i e he)
theorem TxSt.chg {S : Nat → Prop} (h : TxSt O B w W bk cs A c es) (hc : Chg W W' S) (hS : ∀ k, S k → B ≤ k ∧ O k = none) (h1 : ¬ S bk) (h2 : ∀ b, (Value.slice A es.length c).ownBlock = some b → ¬ S b) : TxSt O B w W' bk cs A c es where
  hb := h.hb.trans (hc.toBelow (Nat.le_trans h.wB h.hb.size) (fun k hk => (hS k hk).1))
  wB := h.wB
  tab := h.tab.keep (hc.block _ h.tab.lt (fun hs => by have := (hS _ hs).1; have := h.tabB; omega))
  tabB := h.tabB
  bkB := h.bkB
  hbk := hc.holds h1 h.hbk
  c3 := h.c3
  row := hc.owns h.row h2
  bkr := h.bkr
  ap := h.ap
  un := h.un
  kp := fun b o ho => (hc.block b (Array.getElem?_eq_some_iff.1 (h.kp b o ho)).1 (fun hs => by rw [(hS b hs).2] at ho; cases ho)).trans (h.kp b o ho)
  kd := h.kd
  kl := h.kl
  sm := h.sm
end
def Fl (B : Nat) (W : World) (es : List Ent) (k : Nat) : Prop :=
  ∀ (j : Nat) e, es[j]? = some e → ∃ xs, W.ownsRow B 5 1 e.v e.len xs ∧ (j < k → xs = List.replicate e.len (.int .u8 (bmark e.n)))
theorem Fl.chg {B : Nat} {W W' : World} {es : List Ent} {k : Nat} {S : Nat → Prop} (h : Fl B W es k) (hc : Chg W W' S) (hS : ∀ (j : Nat) e, es[j]? = some e → ∀ b, e.v.ownBlock = some b → ¬ S b) : Fl B W' es k := fun j e he => by
  obtain ⟨xs, h1, h2⟩ := h j e he
  exact ⟨xs, hc.owns h1 (hS j e he), h2⟩
def Fi (B : Nat) (W : World) (es : List Ent) (k i : Nat) : Prop :=
  ∀ (j : Nat) e, es[j]? = some e → ∃ xs, W.ownsRow B 5 1 e.v e.len xs ∧ (j < k → xs = List.replicate e.len (.int .u8 (bmark e.n))) ∧ (j = k → xs.take i = List.replicate i (.int .u8 (bmark e.n)))
theorem Fi.chg {B : Nat} {W W' : World} {es : List Ent} {k i : Nat} {S : Nat → Prop} (h : Fi B W es k i) (hc : Chg W W' S) (hS : ∀ (j : Nat) e, es[j]? = some e → ∀ b, e.v.ownBlock = some b → ¬ S b) : Fi B W' es k i := fun j e he => by
  obtain ⟨xs, h1, h2⟩ := h j e he
  exact ⟨xs, hc.owns h1 (hS j e he), h2⟩
theorem Fi.put {O : Nat → Option Obj} {B : Nat} {w W : World} {bk : Nat} {cs : Array Value} {A : Option Addr} {c : Nat} {es : List Ent} {k i g cap : Nat} {e : Ent} (h : Fi B W es k i) (hs : TxSt O B w W bk cs A c es) (he : es[k]? = some e) (hv : e.v = .slice (some ⟨g, 0, none⟩) e.len cap) (hi : i < e.len) :
    Fi B (W.setCell ⟨g, i, none⟩ (.int .u8 (bmark e.n))) es k (i + 1) := fun j f hf => by
  obtain ⟨xs, h1, h2, h3⟩ := h j f hf
  by_cases hj : j = k
  · subst hj
    rw [he] at hf
    obtain rfl := Option.some.inj hf
    rw [hv] at h1 ⊢
    refine ⟨xs.set i (.int .u8 (bmark e.n)), own_set h1 i _, fun h => absurd h (Nat.lt_irrefl _), fun _ => ?_⟩
    have hxl : xs.length = e.len := own_length h1
    rw [List.take_set, List.take_add_one, h3 rfl, List.replicate_succ']
    have : i < xs.length := by omega
    rw [List.getElem?_eq_getElem this]
    simp only [Option.toList_some]
    simp [List.set_append]
  · refine ⟨xs, own_far h1 (fun hb => hs.un k j e f (fun e => hj e.symm) he hf g (by rw [hv]; rfl) hb) _, h2, fun h => absurd h hj⟩
set_option maxRecDepth 100000 in
set_option maxHeartbeats 4000000 in
theorem fillByte_any {O : Nat → Option Obj} {B : Nat} {w W : World} {bk : Nat} {cs : Array Value} {A : Option Addr} {c : Nat} {es : List Ent} (hs : TxSt O B w W bk cs A c es) (hf : Fl B W es 0) :
    Calls Tryz.prog 44 #[.pointer (some ⟨bk, 0, none⟩)] W fun e W' => e = .returned (.tuple #[]) ∧ TxSt O B w W' bk cs A c es ∧ Fl B W' es es.length := by
  obtain ⟨m, hm⟩ : ∃ m, es.length = m := ⟨_, rfl⟩
  have HM := Lib.hid hm
  have hm1 : m ≤ 1000000 := by rw [← hm]; exact hs.sm.1
  have HS := Lib.hid hs
  have HF := Lib.hid hf
  rw [hm]
  clear hs hf hm
  go_enter Tryz.func44, Tryz.ntmps44
  go_wp2
  go_loopg [2] m (fun q i wr => ∃ k : Nat, k + q = m ∧ i = .int .i64 (k : Int) ∧ Hid (TxSt O B w wr bk cs A c es ∧ Fl B wr es k))
  case atStart => exact ⟨0, by omega, rfl, HS.out, HF.out⟩
  case round =>
    obtain ⟨k, hk, rfl, HR⟩ := hrel
    obtain ⟨gO, hgO⟩ : ∃ x, x = gk := ⟨_, rfl⟩
    subst hgO
    obtain ⟨wO, hwO⟩ : ∃ x, x = wr := ⟨_, rfl⟩
    subst hwO
    have b3 := (HR.out.1.hbk.cell 1).trans HR.out.1.c3
    rw [HM.out] at b3
    by_cases hlt : k < m
    · obtain ⟨e, he⟩ : ∃ x, es[k]? = some x := ⟨_, List.getElem?_eq_getElem (by rw [HM.out]; exact hlt)⟩
      have hrow := HR.out.1.row
      rw [HM.out] at hrow
      rcases hrow.2 with ⟨_, h0⟩ | ⟨tr, tc, cur, hv, _⟩
      · omega
      injection hv with e1 e2 e3
      subst e1
      subst e3
      have r0 := hrow.cells (g := tr) rfl (k * 3 + 0) _ (flat_at he rfl)
      have r1 := hrow.cells (g := tr) rfl (k * 3 + 1) _ (flat_at he rfl)
      have r2 := hrow.cells (g := tr) rfl (k * 3 + 2) _ (flat_at he rfl)
      rw [addr_add] at r0 r1 r2
      rw [Nat.add_zero] at r0
      obtain ⟨xs0, ho0, _⟩ := HR.out.2 k e he
      obtain ⟨vA, vc, hev, hvc⟩ := own_slice ho0
      obtain ⟨hen, hel, lA, ll, lc, hlg⟩ := HR.out.1.sm.2 k e he
      have HVL := Lib.hid (fun b hb => (ho0.lt b hb).2)
      rw [hev] at HVL
      rw [hev] at r0
      rw [hlg] at r1
      have HE := Lib.hid he
      have HEV := Lib.hid hev
      have hbo := World.block_lt_of_cell? _ _ r0
      have hst0 : Hid (TxSt O B w (wO.alloc (.cells #[.slice vA e.len vc, .slice lA ll lc, .int .i64 (e.n : Int)] 98)) bk cs (some ⟨tr, 0, none⟩) c es ∧ Fi B (wO.alloc (.cells #[.slice vA e.len vc, .slice lA ll lc, .int .i64 (e.n : Int)] 98)) es k 0 ∧ Holds (wO.alloc (.cells #[.slice vA e.len vc, .slice lA ll lc, .int .i64 (e.n : Int)] 98)) wO.heap.size 98 #[.slice vA e.len vc, .slice lA ll lc, .int .i64 (e.n : Int)]) := by
        have hch := (Chg.refl wO (fun _ => False)).alloc (.cells #[.slice vA e.len vc, .slice lA ll lc, .int .i64 (e.n : Int)] 98)
        refine ⟨HR.out.1.chg hch (fun _ h => h.elim) (fun h => h) (fun _ _ h => h), ?_, Holds.new wO _ _⟩
        intro j f hf
        obtain ⟨xs, h1, h2⟩ := HR.out.2.chg hch (fun _ _ _ _ _ h => h) j f hf
        exact ⟨xs, h1, h2, fun _ => rfl⟩
      clear he hrow ho0 hev HR
      go_wp2
      go_loopg [4] e.len (fun q vi wi => ∃ i : Nat, i + q = e.len ∧ vi = .int .i64 (i : Int) ∧ Hid (TxSt O B w wi bk cs (some ⟨tr, 0, none⟩) c es ∧ Fi B wi es k i ∧ Holds wi wO.heap.size 98 #[.slice vA e.len vc, .slice lA ll lc, .int .i64 (e.n : Int)]) ∧ wO.heap.size < wi.heap.size)
      case atStart => exact ⟨0, by omega, rfl, hst0.out, by simp⟩
      case round =>
        obtain ⟨i, hi, rfl, HI, hwi⟩ := hrel
        have x0 := HI.out.2.2.cell 0
        have x2 := HI.out.2.2.cell 2
        by_cases hil : i < e.len
        · obtain ⟨xs, ho, _⟩ := HI.out.2.1 k e HE.out
          rw [HEV.out] at ho
          rcases ho.2 with ⟨hv, h0⟩ | ⟨g, cap, cur, hv, _⟩
          · omega
          injection hv with e1 e2 e3
          subst e1
          subst e3
          obtain ⟨a, ha⟩ : ∃ a, xs[i]? = some a := ⟨_, List.getElem?_eq_getElem (by rw [own_length ho]; exact hil)⟩
          have a0 := own_cell ho ha
          have f0 := own_free ho i
          have hgB : B ≤ g ∧ g < wr.heap.size := by
            rcases ho.2 with ⟨h, _⟩ | ⟨g', cap', cur', hv', hg', hh', _⟩
            · cases h
            · injection hv' with e1
              have : g = g' := by simpa using e1
              subst this
              exact ⟨hg', (Array.getElem?_eq_some_iff.1 hh').1⟩
          have hgO : g < wO.heap.size := HVL.out g rfl
          have hne : wO.heap.size ≠ g := by omega
          have y0 : wr.cell? ⟨wO.heap.size, 0, none⟩ = some (.slice (some ⟨g, 0, none⟩) e.len vc) := x0
          have y2 : wr.cell? ⟨wO.heap.size, 2, none⟩ = some (.int .i64 (e.n : Int)) := x2
          have HTB := Lib.hid HI.out.1.tab
          have HAT := Lib.hid ha
          clear ho
          go_wp2
          refine wp_region_held_drew (S := (fun w' => w'.cell? ⟨wO.heap.size, 0, none⟩ = some (.slice (some ⟨g, 0, none⟩) e.len vc) ∧ w'.cell? ⟨wO.heap.size, 2, none⟩ = some (.int .i64 (e.n : Int)))) (by kernel_rfl) ?_ (fun hHeld0 => ?_)
          · (try dsimp only)
            first | exact ⟨y0, y2⟩ | exact ⟨z0, z2⟩ | exact ⟨u0, u2⟩
          refine wpAnyH_take (i := 0) (oi := ⟨some 28, _, _, _, _, _⟩) (v := ?_) rfl (by kernel_rfl) (by kernel_rfl) (by kernel_rfl) (fun _ _ _ h => h) (Or.inl ⟨by kernel_rfl, ?_⟩) (by assumption) ?_
          rotate_left
          · (intro w hSw; (try dsimp only at hSw); go_simp; (first | done | with_reducible rfl))
          (try simp only [Act.put, List.setIfInBounds_toArray, List.set_cons_zero, List.set_cons_succ])
          refine wpAnyH_take (i := 1) (oi := ⟨some 29, _, _, _, _, _⟩) (v := ?_) rfl (by kernel_rfl) (by kernel_rfl) (by kernel_rfl) (fun _ _ _ h => h) (Or.inl ⟨by kernel_rfl, ?_⟩) (by assumption) ?_
          rotate_left
          · (intro w hSw; (try dsimp only at hSw); go_simp; (first | done | with_reducible rfl))
          (try simp only [Act.put, List.setIfInBounds_toArray, List.set_cons_zero, List.set_cons_succ])
          refine wpAnyH_take (i := 2) (oi := ⟨some 30, _, _, _, _, _⟩) (v := ?_) rfl (by kernel_rfl) (by kernel_rfl) (by kernel_rfl) (fun _ _ _ h => h) (Or.inl ⟨by kernel_rfl, ?_⟩) (by assumption) ?_
          rotate_left
          · (intro w hSw; (try dsimp only at hSw); go_simp; (first | done | with_reducible rfl))
          (try simp only [Act.put, List.setIfInBounds_toArray, List.set_cons_zero, List.set_cons_succ])
          refine wpAnyH_take (i := 3) (oi := ⟨some 31, _, _, _, _, _⟩) (v := ?_) rfl (by kernel_rfl) (by kernel_rfl) (by kernel_rfl) (fun _ _ _ h => h) (Or.inl ⟨by kernel_rfl, ?_⟩) (by assumption) ?_
          rotate_left
          · (intro w hSw; (try dsimp only at hSw); go_simp; (first | done | with_reducible rfl))
          (try simp only [Act.put, List.setIfInBounds_toArray, List.set_cons_zero, List.set_cons_succ])
          refine wpAnyH_take (i := 4) (oi := ⟨some 32, _, _, _, _, _⟩) (v := ?_) rfl (by kernel_rfl) (by kernel_rfl) (by kernel_rfl) (fun _ _ _ h => h) (Or.inl ⟨by kernel_rfl, ?_⟩) (by assumption) ?_
          rotate_left
          · (intro w hSw; (try dsimp only at hSw); go_simp; (first | done | with_reducible rfl))
          (try simp only [Act.put, List.setIfInBounds_toArray, List.set_cons_zero, List.set_cons_succ])
          refine wpAnyH_ready (rs := [5]) (by kernel_rfl) (by simp) ?_
          refine AllReadyH.cons (o := ⟨some 33, _, _, _, _, _⟩) rfl (fun K hK => ?_) AllReadyH.nil
          go_simp
          refine (markByte_any e.n (by omega) wr.drew HTB.out).mono ?_
          rintro e' w2 ⟨rfl, hb2⟩
          have hch : Chg wr w2 (fun _ => False) := ((Chg.refl wr (fun _ => False)).drew).trans (Chg.below hb2 (fun _ => False)) (fun _ _ h => h)
          have HI2 : Hid (TxSt O B w w2 bk cs (some ⟨tr, 0, none⟩) c es ∧ Fi B w2 es k i ∧ Holds w2 wO.heap.size 98 #[.slice (some ⟨g, 0, none⟩) e.len vc, .slice lA ll lc, .int .i64 (e.n : Int)]) :=
            ⟨HI.out.1.chg hch (fun _ h => h.elim) (fun h => h) (fun _ _ h => h), HI.out.2.1.chg hch (fun _ _ _ _ _ h => h), hch.holds (fun h => h) HI.out.2.2⟩
          have hs2 := hch.size
          have z0 : w2.cell? ⟨wO.heap.size, 0, none⟩ = some (.slice (some ⟨g, 0, none⟩) e.len vc) := HI2.out.2.2.cell 0
          have z2 : w2.cell? ⟨wO.heap.size, 2, none⟩ = some (.int .i64 (e.n : Int)) := HI2.out.2.2.cell 2
          have a2 : w2.cell? ⟨g, i, none⟩ = some a := hch.cell (fun h => h) a0
          have f2 : w2.frozen? ⟨g, i, none⟩ = false := by
            obtain ⟨xs', ho', _⟩ := HI2.out.2.1 k e HE.out
            rw [HEV.out] at ho'
            exact own_free ho' i
          clear hb2 hch
          go_wp2_with fail
          refine hK.out _ _ ?_ (fun hHeld1 => ?_)
          · (try dsimp only)
            first | exact ⟨y0, y2⟩ | exact ⟨z0, z2⟩ | exact ⟨u0, u2⟩
          clear hK K hHeld0
          (try simp only [Act.put, List.setIfInBounds_toArray, List.set_cons_zero, List.set_cons_succ])
          refine wpAnyH_take (i := 6) (oi := ⟨some 34, _, _, _, _, _⟩) (v := ?_) rfl (by kernel_rfl) (by kernel_rfl) (by kernel_rfl) (fun _ _ _ h => h) (Or.inl ⟨by kernel_rfl, ?_⟩) (by assumption) ?_
          rotate_left
          · (intro w hSw; (try dsimp only at hSw); go_simp; (first | done | with_reducible rfl))
          (try simp only [Act.put, List.setIfInBounds_toArray, List.set_cons_zero, List.set_cons_succ])
          refine wpAnyH_ready (rs := [7]) (by kernel_rfl) (by simp) ?_
          refine AllReadyH.cons rfl (fun K hK => ?_) AllReadyH.nil
          go_simp
          refine name_world2 ?_
          intro w9 hw9
          have HI9 : Hid (TxSt O B w w9 bk cs (some ⟨tr, 0, none⟩) c es ∧ Fi B w9 es k (i + 1) ∧ Holds w9 wO.heap.size 98 #[.slice (some ⟨g, 0, none⟩) e.len vc, .slice lA ll lc, .int .i64 (e.n : Int)]) := by
            rw [hw9]
            have hc := Chg.set w2 ⟨g, i, none⟩ (.int .u8 (bmark e.n))
            refine ⟨HI2.out.1.chg hc (fun k' e' => by subst e'; exact ⟨hgB.1, HI2.out.1.offV HE.out (by rw [HEV.out]; rfl)⟩) (fun h => (HI2.out.1.ap k e HE.out).1 (by rw [HEV.out, h]; rfl)) (fun b hb h => (HI2.out.1.ap k e HE.out).2 g (by rw [HEV.out]; rfl) (by rw [hb, h])), Fi.put HI2.out.2.1 HI2.out.1 HE.out HEV.out hil, HI2.out.2.2.far hne _⟩
          have hz9 : w9.heap.size = w2.heap.size := by rw [hw9]; simp [World.setCell]
          have u0 : w9.cell? ⟨wO.heap.size, 0, none⟩ = some (.slice (some ⟨g, 0, none⟩) e.len vc) := HI9.out.2.2.cell 0
          have u2 : w9.cell? ⟨wO.heap.size, 2, none⟩ = some (.int .i64 (e.n : Int)) := HI9.out.2.2.cell 2
          clear hw9
          refine hK.out _ _ ?_ (fun hHeld2 => ?_)
          · (try dsimp only)
            first | exact ⟨y0, y2⟩ | exact ⟨z0, z2⟩ | exact ⟨u0, u2⟩
          clear hK K hHeld1
          (try simp only [Act.put, List.setIfInBounds_toArray, List.set_cons_zero, List.set_cons_succ])
          refine wpAnyH_done (by kernel_rfl) ?_ _
          go_wp2
          go_roundg (gk - 1)
          case measure => omega
          case rel => exact ⟨i + 1, by omega, by go_num, HI9.out, by omega⟩
        · obtain rfl : i = e.len := by omega
          have HFN : Hid (TxSt O B w wr bk cs (some ⟨tr, 0, none⟩) c es ∧ Fl B wr es (k + 1)) := by
            refine ⟨HI.out.1, fun j f hf => ?_⟩
            obtain ⟨xs, h1, h2, h3⟩ := HI.out.2.1 j f hf
            refine ⟨xs, h1, fun hj => ?_⟩
            by_cases hjk : j < k
            · exact h2 hjk
            · obtain rfl : j = k := by omega
              have he := HE.out
              rw [he] at hf
              obtain rfl := Option.some.inj hf
              have h4 := h3 rfl
              rw [List.take_of_length_le (by rw [own_length h1]; exact Nat.le_refl _)] at h4
              exact h4
          clear HI
          go_wp2
          go_roundg (gO - 1)
          case measure => omega
          case rel => exact ⟨k + 1, by omega, by go_num, HFN.out⟩
    · obtain rfl : k = m := by omega
      go_wp2
      go_end0
      exact ⟨rfl, HR.out.1, HR.out.2⟩
end Go.Proofs.YtggnkpblfmjbcaaGreatDoor.ByteB
namespace Go.Proofs.YtggnkpblfmjbcaaGreatDoor.ByteB
open Go.RowKit Go.Bd
theorem byte_inf2 : (Tryz.prog.info? 5).map (fun i => (i.zero, i.size, i.bytes)) = some (some (.int .u8 0), 1, 1) := by kernel_rfl
structure Gn (W : World) (bk : Nat) (A : Option Addr) (c : Nat) (es : List Ent) (k : Nat) (e : Ent) : Prop where
  old : ∀ b, e.v.ownBlock = some b → ∀ i, i < e.len → W.cell? ⟨b, i, none⟩ = some (.int .u8 (bmark e.n))
  lt : ∀ b, e.v.ownBlock = some b → b < W.heap.size
  sl : ∃ vA vc, e.v = .slice vA e.len vc ∧ (0 < e.len → ∃ b, vA = some ⟨b, 0, none⟩)
  new : ∃ g cap, e.lg = .slice (some ⟨g, 0, none⟩) (e.len + 40) cap ∧ (∀ i, i < e.len + 40 → W.cell? ⟨g, i, none⟩ = some (.int .u8 (bmark e.n))) ∧ g ≠ bk ∧ (Value.slice A es.length c).ownBlock ≠ some g ∧ ∀ (j : Nat) f, k ≤ j → es[j]? = some f → f.v.ownBlock ≠ some g
def Gl (B : Nat) (W : World) (bk : Nat) (A : Option Addr) (c : Nat) (es : List Ent) (k : Nat) : Prop :=
  ∀ (j : Nat) e, es[j]? = some e → (j < k → Gn W bk A c es k e) ∧ (k ≤ j → W.ownsRow B 5 1 e.v e.len (List.replicate e.len (.int .u8 (bmark e.n))))
section
variable {O : Nat → Option Obj} {B : Nat} {w W W' : World} {bk : Nat} {cs : Array Value} {A : Option Addr} {c : Nat} {es : List Ent} {k : Nat} {e : Ent}
theorem Gn.chg {S : Nat → Prop} (h : Gn W bk A c es k e) (hc : Chg W W' S) (h1 : ∀ b, e.v.ownBlock = some b → ¬ S b) (h2 : ∀ g cap, e.lg = .slice (some ⟨g, 0, none⟩) (e.len + 40) cap → ¬ S g) : Gn W' bk A c es k e where
  old := fun b hb i hi => hc.cell (h1 b hb) (h.old b hb i hi)
  lt := fun b hb => Nat.lt_of_lt_of_le (h.lt b hb) hc.size
  sl := h.sl
  new := by
    obtain ⟨g, cap, e1, e2, e3⟩ := h.new
    exact ⟨g, cap, e1, fun i hi => hc.cell (h2 g cap e1) (e2 i hi), e3⟩
theorem TxSt.store (h : TxSt O B w W bk cs A c es) (he : es[k]? = some e) {tr : Nat} (hA : A = some ⟨tr, 0, none⟩) (lA : Option Addr) (ll lc : Nat) (hlO : ∀ b, (Value.slice lA ll lc).ownBlock = some b → O b = none) :
    TxSt O B w (W.setCell ⟨tr, k * 3 + 1, none⟩ (.slice lA ll lc)) bk cs A c (es.set k { e with lg := .slice lA ll lc }) := by
  subst hA
  have hc := Chg.set W ⟨tr, k * 3 + 1, none⟩ (.slice lA ll lc)
  have hbt : B ≤ tr := (h.row.lt tr rfl).1
  have hkb : tr ≠ bk := fun e => h.bkr (by rw [← e]; rfl)
  have hat : ∀ (i : Nat) f, (es.set k { e with lg := .slice lA ll lc })[i]? = some f → ∃ f0, es[i]? = some f0 ∧ f.v = f0.v ∧ f.n = f0.n ∧ f.len = f0.len ∧ (f.lg = f0.lg ∨ f.lg = .slice lA ll lc) := fun i f hf => by
    rw [List.getElem?_set] at hf
    split at hf
    · rename_i hk
      subst hk
      split at hf
      · obtain rfl := Option.some.inj hf
        exact ⟨e, he, rfl, rfl, rfl, .inr rfl⟩
      · cases hf
    · exact ⟨f, hf, rfl, rfl, rfl, .inl rfl⟩
  refine ⟨h.hb.trans (hc.toBelow (Nat.le_trans h.wB h.hb.size) (fun k e => by rw [e]; exact hbt)), h.wB, h.tab.keep (hc.block _ h.tab.lt (fun hs => by have := h.tabB; have : 0 = tr := hs; omega)), h.tabB, h.bkB, hc.holds (fun e => hkb e.symm) h.hbk, by rw [List.length_set]; exact h.c3, ?_, by rw [List.length_set]; exact h.bkr, ?_, ?_, fun b o ho => (hc.block b (Array.getElem?_eq_some_iff.1 (h.kp b o ho)).1 (fun e' => (h.kd b o ho).2.1 (by have e2 : b = tr := e'; rw [e2]; rfl))).trans (h.kp b o ho), fun b o ho => ⟨(h.kd b o ho).1, by rw [List.length_set]; exact (h.kd b o ho).2.1, fun i f hf => ?_⟩, fun i f b hf hb => ?_, by rw [List.length_set]; exact h.sm.1, ?_⟩
  · rw [List.length_set, ← flat_set es k e _ he]
    exact (World.ownsRow.stored h.row _ _).1
  · intro i f hf
    obtain ⟨f0, h0, e1, _⟩ := hat i f hf
    rw [List.length_set, e1]
    exact h.ap i f0 h0
  · intro i j f g hij hf hg
    obtain ⟨f0, h0, e1, _⟩ := hat i f hf
    obtain ⟨g0, h1, e2, _⟩ := hat j g hg
    rw [e1, e2]
    exact h.un i j f0 g0 hij h0 h1
  · obtain ⟨f0, h0, e1, _⟩ := hat i f hf
    rw [e1]
    exact (h.kd b o ho).2.2 i f0 h0
  · obtain ⟨f0, h0, _, _, _, e4⟩ := hat i f hf
    rcases e4 with e4 | e4
    · exact h.kl i f0 b h0 (by rw [← e4]; exact hb)
    · exact hlO b (by rw [← e4]; exact hb)
  · intro i f hf
    obtain ⟨f0, h0, _, e2, e3, e4⟩ := hat i f hf
    rw [e2, e3]
    obtain ⟨a1, a2, a3⟩ := h.sm.2 i f0 h0
    refine ⟨a1, a2, ?_⟩
    rcases e4 with e4 | e4
    · rw [e4]; exact a3
    · exact ⟨_, _, _, e4⟩
end
end Go.Proofs.YtggnkpblfmjbcaaGreatDoor.ByteB
namespace Go.Proofs.YtggnkpblfmjbcaaGreatDoor.ByteB
open Go.RowKit Go.Bd
theorem held_info : (Tryz.prog.info? 98).map (fun i => (i.zero, i.size, i.bytes)) = some (some (.agg #[.slice none 0 0, .slice none 0 0, .int .i64 0]), 3, 56) := by kernel_rfl
section
variable {O : Nat → Option Obj} {B : Nat} {w W W' : World} {bk : Nat} {cs cs' : Array Value} {A : Option Addr} {c : Nat} {es : List Ent}
theorem TxSt.push (h : TxSt O B w W bk cs A c es) (hc : Chg W W' (fun b => b = bk ∨ some b = (Value.slice A es.length c).ownBlock)) (hbk : Holds W' bk 54 cs') {g cap : Nat} (c3 : cs'[1]? = some (.slice (some ⟨g, 0, none⟩) (es.length + 1) cap))
    {v : Value} {n len : Nat} (ho : W'.ownsRow B tH 3 (.slice (some ⟨g, 0, none⟩) (es.length + 1) cap) (es.length + 1) (flat es ++ [v, .slice none 0 0, .int .i64 (n : Int)]))
    (hat : (Value.slice A es.length c).ownBlock = some g ∨ W.heap.size ≤ g) (hlt : ∀ (i : Nat) f b, es[i]? = some f → f.v.ownBlock = some b → b < W.heap.size)
    (hv : ∀ b, v.ownBlock = some b → b < W.heap.size ∧ b ≠ bk ∧ (Value.slice A es.length c).ownBlock ≠ some b ∧ O b = none ∧ ∀ (i : Nat) f, es[i]? = some f → f.v.ownBlock ≠ some b)
    (hn : es.length < 1000000) (hn2 : n ≤ 1000000) (hle : len ≤ 2147483647) :
    TxSt O B w W' bk cs' (some ⟨g, 0, none⟩) cap (es ++ [⟨v, .slice none 0 0, n, len⟩]) := by
  have hsB : ∀ k, (k = bk ∨ some k = (Value.slice A es.length c).ownBlock) → B ≤ k := fun k hk => by
    rcases hk with rfl | hk
    · exact h.bkB
    · exact (h.row.lt k hk.symm).1
  have hbl := h.hbk.lt
  have hgb : g ≠ bk := fun e => by
    rcases hat with h1 | h1
    · exact h.bkr (by rw [h1, e])
    · omega
  have hL : (es ++ [(⟨v, .slice none 0 0, n, len⟩ : Ent)]).length = es.length + 1 := by simp
  have hget : ∀ (i : Nat) f, (es ++ [(⟨v, .slice none 0 0, n, len⟩ : Ent)])[i]? = some f → es[i]? = some f ∨ (i = es.length ∧ f = ⟨v, .slice none 0 0, n, len⟩) := fun i f hf => by
    by_cases hi : i < es.length
    · rw [List.getElem?_append_left hi] at hf; exact .inl hf
    · rw [List.getElem?_append_right (by omega)] at hf
      obtain ⟨h1, h2⟩ := List.getElem?_eq_some_iff.1 hf
      simp at h1 h2
      exact .inr ⟨by omega, h2.symm⟩
  have hoth : ∀ b, b < W.heap.size → (Value.slice A es.length c).ownBlock ≠ some b → b ≠ g := fun b h1 h2 e => by
    rcases hat with h3 | h3
    · exact h2 (by rw [h3, e])
    · omega
  have hO : ∀ (b : Nat) o, O b = some o → b < W.heap.size := fun b o ho => (Array.getElem?_eq_some_iff.1 (h.kp b o ho)).1
  refine ⟨h.hb.trans (hc.toBelow (Nat.le_trans h.wB h.hb.size) hsB), h.wB, h.tab.keep (hc.block _ h.tab.lt (fun hs => by have := hsB _ hs; have := h.tabB; omega)), h.tabB, h.bkB, hbk, by rw [hL]; exact c3, ?_, ?_, ?_, ?_, ?_, ?_, ?_, ?_⟩
  · rw [hL, flat_append]
    exact ho
  · rw [hL]
    exact fun e => hgb (by simpa [Value.ownBlock] using e)
  · intro i f hf
    rw [hL]
    rcases hget i f hf with h1 | ⟨_, rfl⟩
    · refine ⟨(h.ap i f h1).1, fun b hb e => hoth b (hlt i f b h1 hb) ((h.ap i f h1).2 b hb) (by simpa [Value.ownBlock] using e.symm)⟩
    · refine ⟨fun e => (hv bk e).2.1 rfl, fun b hb e => hoth b (hv b hb).1 (hv b hb).2.2.1 (by simpa [Value.ownBlock] using e.symm)⟩
  · intro i j f f' hij hf hf' b hb
    rcases hget i f hf with h1 | ⟨h1, rfl⟩ <;> rcases hget j f' hf' with h2 | ⟨h2, rfl⟩
    · exact h.un i j f f' hij h1 h2 b hb
    · exact fun e => (hv b e).2.2.2.2 i f h1 hb
    · exact fun e => (hv b hb).2.2.2.2 j f' h2 e
    · omega
  · intro b o ho'
    refine (hc.block b (hO b o ho') (fun hs => ?_)).trans (h.kp b o ho')
    rcases hs with hs | hs
    · exact (h.kd b o ho').1 hs
    · exact (h.kd b o ho').2.1 hs.symm
  · intro b o ho'
    rw [hL]
    refine ⟨(h.kd b o ho').1, fun e => hoth b (hO b o ho') (h.kd b o ho').2.1 (by simpa [Value.ownBlock] using e.symm), fun i f hf => ?_⟩
    rcases hget i f hf with h1 | ⟨_, rfl⟩
    · exact (h.kd b o ho').2.2 i f h1
    · exact fun e => by have := (hv b e).2.2.2.1; rw [this] at ho'; cases ho'
  · intro i f b hf hb
    rcases hget i f hf with h1 | ⟨_, rfl⟩
    · exact h.kl i f b h1 hb
    · cases hb
  · refine ⟨by rw [hL]; omega, fun i f hf => ?_⟩
    rcases hget i f hf with h1 | ⟨_, rfl⟩
    · exact h.sm.2 i f h1
    · exact ⟨hn2, hle, _, _, _, rfl⟩
end
set_option maxRecDepth 100000 in
set_option maxHeartbeats 2000000 in
theorem keepByte_any {O : Nat → Option Obj} {B : Nat} {w W : World} {bk : Nat} {cs : Array Value} {A : Option Addr} {c : Nat} {es : List Ent} (hs : TxSt O B w W bk cs A c es) {n : Nat} (h0 : cs[0]? = some (.int .i64 (n : Int))) (hn : n < 1000000)
    (vA : Option Addr) (len vc : Nat) (hlt : ∀ (i : Nat) f b, es[i]? = some f → f.v.ownBlock = some b → b < W.heap.size)
    (hv : ∀ b, (Value.slice vA len vc).ownBlock = some b → b < W.heap.size ∧ b ≠ bk ∧ (Value.slice A es.length c).ownBlock ≠ some b ∧ O b = none ∧ ∀ (i : Nat) f, es[i]? = some f → f.v.ownBlock ≠ some b)
    (hl : es.length < 1000000) (hle : len ≤ 2147483647) :
    Calls Tryz.prog 42 #[.pointer (some ⟨bk, 0, none⟩), .slice vA len vc] W fun e W' => e = .returned (.tuple #[]) ∧
      ∃ A' c', TxSt O B w W' bk ((cs.setIfInBounds 0 (.int .i64 ((n + 1 : Nat) : Int))).setIfInBounds 1 (.slice A' (es.length + 1) c')) A' c' (es ++ [⟨.slice vA len vc, .slice none 0 0, n + 1, len⟩]) ∧ Chg W W' (fun b => b = bk ∨ some b = (Value.slice A es.length c).ownBlock) ∧ ∀ b, (Value.slice A' (es.length + 1) c').ownBlock = some b → (Value.slice A es.length c).ownBlock = some b ∨ W.heap.size ≤ b := by
  have b0 := (hs.hbk.cell 0).trans h0
  have f0 := hs.hbk.free 0
  have hbl := hs.hbk.lt
  have hkr := hs.bkr
  have hBW : B ≤ W.heap.size := Nat.le_trans hs.wB hs.hb.size
  obtain ⟨i0, hi0, hz0, hz1, hz2⟩ := info_parts held_info
  have hcsz : 1 < cs.size := (Array.getElem?_eq_some_iff.1 hs.c3).1
  have h1 : Holds (W.setCell ⟨bk, 0, none⟩ (.int .i64 ((n : Int) + 1))) bk 54 (cs.setIfInBounds 0 (.int .i64 ((n : Int) + 1))) := hs.hbk.set 0 _
  have hr1 : (W.setCell ⟨bk, 0, none⟩ (.int .i64 ((n : Int) + 1))).ownsRow B tH 3 (.slice A es.length c) es.length (flat es) := (Chg.set W ⟨bk, 0, none⟩ (.int .i64 ((n : Int) + 1))).owns hs.row (fun b hb e => hkr (by rw [hb, show b = bk from e]))
  have hC1 := Chg.set W ⟨bk, 0, none⟩ (.int .i64 ((n : Int) + 1))
  have hz : (W.setCell ⟨bk, 0, none⟩ (.int .i64 ((n : Int) + 1))).heap.size = W.heap.size := by simp [World.setCell]
  have d0 := h1.cell 0
  have d3 := h1.cell 1
  have f3 := h1.free 1
  rw [Array.getElem?_setIfInBounds_self_of_lt (by omega)] at d0
  rw [Array.getElem?_setIfInBounds_ne (by omega), hs.c3] at d3
  have HS := Lib.hid (And.intro hs (And.intro hlt hv))
  have HR := Lib.hid (And.intro h1 (And.intro hr1 (And.intro hC1 hz)))
  have HZ := Lib.hid (And.intro hi0 (And.intro hz0 (And.intro hz1 hz2)))
  clear hs hlt hv h1 hr1 hC1 h0 hi0 hz0 hz1 hz2 hz
  have hfl := hbl
  go_enter Tryz.func42, Tryz.ntmps42
  go_wp2
  clear b0 f0
  generalize W.setCell ⟨bk, 0, none⟩ (.int .i64 ((n : Int) + 1)) = W1 at HR d0 d3 f3 ⊢
  have hzs : W.heap.size ≤ W1.heap.size := Nat.le_of_eq HR.out.2.2.2.symm
  have hb1 : bk < W1.heap.size := by omega
  have e0 : (W1.alloc (.cells #[.slice vA len vc, .slice none 0 0, .int .i64 ((n : Int) + 1)] 98)).cell? ⟨bk, 0, none⟩ = some (.int .i64 ((n : Int) + 1)) := by rw [World.cell?_alloc_lt _ _ _ hb1]; exact d0
  have e3 : (W1.alloc (.cells #[.slice vA len vc, .slice none 0 0, .int .i64 ((n : Int) + 1)] 98)).cell? ⟨bk, 1, none⟩ = some (.slice A es.length c) := by rw [World.cell?_alloc_lt _ _ _ hb1]; exact d3
  refine wp_region_held_drew (S := (fun w' => w'.cell? ⟨bk, 0, none⟩ = some (.int .i64 ((n : Int) + 1)))) (by kernel_rfl) ?_ (fun hHeld0 => ?_)
  · (try dsimp only)
    first | exact d0 | exact e0 | exact g0 | exact k0
  refine wpAnyH_take (i := 0) (oi := ⟨some 11, _, _, _, _, _⟩) (v := ?_) rfl (by kernel_rfl) (by kernel_rfl) (by kernel_rfl) (fun _ _ _ h => h) (Or.inl ⟨by kernel_rfl, ?_⟩) (by assumption) ?_
  rotate_left
  · (intro w hSw; (try dsimp only at hSw); go_simp; (first | done | with_reducible rfl))
  (try simp only [Act.put, List.setIfInBounds_toArray, List.set_cons_zero, List.set_cons_succ])
  refine wpAnyH_take (i := 1) (oi := ⟨some 12, _, _, _, _, _⟩) (v := ?_) rfl (by kernel_rfl) (by kernel_rfl) (by kernel_rfl) (fun _ _ _ h => h) (Or.inl ⟨by kernel_rfl, ?_⟩) (by assumption) ?_
  rotate_left
  · (intro w hSw; (try dsimp only at hSw); go_simp; (first | done | with_reducible rfl))
  (try simp only [Act.put, List.setIfInBounds_toArray, List.set_cons_zero, List.set_cons_succ])
  refine wpAnyH_take (i := 2) (oi := ⟨some 13, _, _, _, _, _⟩) (v := ?_) rfl (by kernel_rfl) (by kernel_rfl) (by kernel_rfl) (fun _ _ _ h => h) (Or.inl ⟨by kernel_rfl, ?_⟩) (by assumption) ?_
  rotate_left
  · (intro w hSw; (try dsimp only at hSw); go_simp; (first | done | with_reducible rfl))
  (try simp only [Act.put, List.setIfInBounds_toArray, List.set_cons_zero, List.set_cons_succ])
  refine wpAnyH_take (i := 3) (oi := ⟨some 14, _, _, _, _, _⟩) (v := ?_) rfl (by kernel_rfl) (by kernel_rfl) (by kernel_rfl) (fun _ _ _ h => h) (Or.inl ⟨by kernel_rfl, ?_⟩) (by assumption) ?_
  rotate_left
  · (intro w hSw; (try dsimp only at hSw); go_simp; (first | done | with_reducible rfl))
  (try simp only [Act.put, List.setIfInBounds_toArray, List.set_cons_zero, List.set_cons_succ])
  refine wpAnyH_take (i := 5) (oi := ⟨some 16, _, _, _, _, _⟩) (v := ?_) rfl (by kernel_rfl) (by kernel_rfl) (by kernel_rfl) (fun _ _ _ h => h) (Or.inl ⟨by kernel_rfl, ?_⟩) (by assumption) ?_
  rotate_left
  · (intro w hSw; (try dsimp only at hSw); go_simp; (first | done | with_reducible rfl))
  (try simp only [Act.put, List.setIfInBounds_toArray, List.set_cons_zero, List.set_cons_succ])
  refine wpAnyH_take (i := 6) (oi := ⟨some 17, _, _, _, _, _⟩) (v := ?_) rfl (by kernel_rfl) (by kernel_rfl) (by kernel_rfl) (fun _ _ _ h => h) (Or.inl ⟨by kernel_rfl, ?_⟩) (by assumption) ?_
  rotate_left
  · (intro w hSw; (try dsimp only at hSw); go_simp; (first | done | with_reducible rfl))
  (try simp only [Act.put, List.setIfInBounds_toArray, List.set_cons_zero, List.set_cons_succ])
  refine wpAnyH_take (i := 7) (oi := ⟨some 18, _, _, _, _, _⟩) (v := ?_) rfl (by kernel_rfl) (by kernel_rfl) (by kernel_rfl) (fun _ _ _ h => h) (Or.inl ⟨by kernel_rfl, ?_⟩) (by assumption) ?_
  rotate_left
  · (intro w hSw; (try dsimp only at hSw); go_simp; (first | done | with_reducible rfl))
  (try simp only [Act.put, List.setIfInBounds_toArray, List.set_cons_zero, List.set_cons_succ])
  refine wpAnyH_take (i := 8) (oi := ⟨some 19, _, _, _, _, _⟩) (v := ?_) rfl (by kernel_rfl) (by kernel_rfl) (by kernel_rfl) (fun _ _ _ h => h) (Or.inl ⟨by kernel_rfl, ?_⟩) (by assumption) ?_
  rotate_left
  · (intro w hSw; (try dsimp only at hSw); go_simp; (first | done | with_reducible rfl))
  (try simp only [Act.put, List.setIfInBounds_toArray, List.set_cons_zero, List.set_cons_succ])
  refine wpAnyH_take (i := 9) (oi := ⟨some 20, _, _, _, _, _⟩) (v := ?_) rfl (by kernel_rfl) (by kernel_rfl) (by kernel_rfl) (fun _ _ _ h => h) (Or.inl ⟨by kernel_rfl, ?_⟩) (by assumption) ?_
  rotate_left
  · (intro w hSw; (try dsimp only at hSw); go_simp; (first | done | with_reducible rfl))
  (try simp only [Act.put, List.setIfInBounds_toArray, List.set_cons_zero, List.set_cons_succ])
  refine wpAnyH_take (i := 10) (oi := ⟨some 21, _, _, _, _, _⟩) (v := ?_) rfl (by kernel_rfl) (by kernel_rfl) (by kernel_rfl) (fun _ _ _ h => h) (Or.inl ⟨by kernel_rfl, ?_⟩) (by assumption) ?_
  rotate_left
  · (intro w hSw; (try dsimp only at hSw); go_simp; (first | done | with_reducible rfl))
  (try simp only [Act.put, List.setIfInBounds_toArray, List.set_cons_zero, List.set_cons_succ])
  refine wpAnyH_ready (rs := [4, 11]) (by kernel_rfl) (by simp) ?_
  refine AllReadyH.cons (o := ⟨some 15, _, _, _, _, _⟩) rfl (fun K hK => ?_) ?_
  · skip
    go_simp
    refine hK.out _ _ ?_ (fun hHeld1 => ?_)
    · (try dsimp only)
      first | exact d0 | exact e0 | exact g0 | exact k0
    clear hK K hHeld0
    (try simp only [Act.put, List.setIfInBounds_toArray, List.set_cons_zero, List.set_cons_succ])
    refine wpAnyH_ready (rs := [11]) (by kernel_rfl) (by simp) ?_
    refine AllReadyH.cons (o := ⟨some 22, _, _, _, _, _⟩) rfl (fun K hK => ?_) AllReadyH.nil
    go_simp
    refine hK.out _ _ ?_ (fun hHeld2 => ?_)
    · (try dsimp only)
      first | exact d0 | exact e0 | exact g0 | exact k0
    clear hK K hHeld1
    (try simp only [Act.put, List.setIfInBounds_toArray, List.set_cons_zero, List.set_cons_succ])
    refine wpAnyH_ready (rs := [12]) (by kernel_rfl) (by simp) ?_
    refine AllReadyH.cons (o := ⟨some 23, _, _, _, _, _⟩) rfl (fun K hK => ?_) AllReadyH.nil
    refine step_append_lies _ (by rfl) _ _ _ (by rfl) B 98 i0 _ 3 56 Tryz.underlying36 HZ.out.1 HZ.out.2.1 HZ.out.2.2.1 HZ.out.2.2.2 rfl (by omega) (.slice A es.length c) es.length (flat es) (by rfl) ((HR.out.2.1.alloc _).drew)
      ⟨W1.heap.size, 0, none⟩ 1 1 [.slice vA len vc, .slice none 0 0, .int .i64 ((n : Int) + 1)] (by rfl) (by rfl) (World.news_of_block (cs := #[.slice vA len vc, .slice none 0 0, .int .i64 ((n : Int) + 1)]) (t := 98) (fr := (0, 0)) (heap_alloc_new W1 _)) (by simp [Value.oneCell'])
      (by omega) (by unfold maxLen; omega) (by omega) (by simp; omega) (W1.heap.size + 1) (by simp) ?_
    intro g cap w2 ho2 hg2 hat2 hl2
    have hC2 : Chg W1 w2 (fun b => some b = (Value.slice A es.length c).ownBlock) := (((Chg.refl W1 _).alloc _).drew).trans (Chg.grown hg2) (fun _ _ h => h)
    have hgb : g ≠ bk := fun e => by
      rcases hat2 with h | h
      · exact hkr (by rw [h, e])
      · omega
    have hh2 := hC2.holds (fun h => hkr h.symm) HR.out.1
    have g0 := hC2.cell (p := ⟨bk, 0, none⟩) (fun h => hkr h.symm) d0
    have g3 := hC2.cell (p := ⟨bk, 1, none⟩) (fun h => hkr h.symm) d3
    have q3 := hh2.free 1
    have k0 := cell_off (i := 1) (j := 0) (by omega) (.slice (some ⟨g, 0, none⟩) (es.length + 1) cap) g0
    have HE := Lib.hid (And.intro hC2 (And.intro ho2 (And.intro hat2 hh2)))
    clear hC2 ho2 hat2 hh2 hg2
    refine hK.out _ _ ?_ (fun hHeld3 => ?_)
    · (try dsimp only)
      first | exact d0 | exact e0 | exact g0 | exact k0
    clear hK K hHeld2
    (try simp only [Act.put, List.setIfInBounds_toArray, List.set_cons_zero, List.set_cons_succ])
    refine wpAnyH_take (i := 13) (oi := ⟨some 24, _, _, _, _, _⟩) (v := ?_) rfl (by kernel_rfl) (by kernel_rfl) (by kernel_rfl) (fun _ _ _ h => h) (Or.inl ⟨by kernel_rfl, ?_⟩) (by assumption) ?_
    rotate_left
    · (intro w hSw; (try dsimp only at hSw); go_simp; (first | done | with_reducible rfl))
    (try simp only [Act.put, List.setIfInBounds_toArray, List.set_cons_zero, List.set_cons_succ])
    refine wpAnyH_take (i := 14) (oi := ⟨some 25, _, _, _, _, _⟩) (v := ?_) rfl (by kernel_rfl) (by kernel_rfl) (by kernel_rfl) (fun _ _ _ h => h) (Or.inl ⟨by kernel_rfl, ?_⟩) (by assumption) ?_
    rotate_left
    · (intro w hSw; (try dsimp only at hSw); go_simp; (first | done | with_reducible rfl))
    (try simp only [Act.put, List.setIfInBounds_toArray, List.set_cons_zero, List.set_cons_succ])
    refine wpAnyH_ready (rs := [15]) (by kernel_rfl) (by simp) ?_
    refine AllReadyH.cons rfl (fun K hK => ?_) AllReadyH.nil
    go_simp
    refine hK.out _ _ ?_ (fun hHeld4 => ?_)
    · (try dsimp only)
      first | exact d0 | exact e0 | exact g0 | exact k0
    clear hK K hHeld3
    (try simp only [Act.put, List.setIfInBounds_toArray, List.set_cons_zero, List.set_cons_succ])
    refine wpAnyH_done (by kernel_rfl) ?_ _
    go_wp2
    go_end0
    refine ⟨rfl, some ⟨g, 0, none⟩, cap, ?_⟩
    have hC := Chg.set w2 ⟨bk, 1, none⟩ (.slice (some ⟨g, 0, none⟩) (es.length + 1) cap)
    have hall : Chg W (w2.setCell ⟨bk, 1, none⟩ (.slice (some ⟨g, 0, none⟩) (es.length + 1) cap)) (fun b => b = bk ∨ some b = (Value.slice A es.length c).ownBlock) :=
      (HR.out.2.2.1.mono (T := fun b => b = bk ∨ some b = (Value.slice A es.length c).ownBlock) (fun k _ h => .inl h)).trans ((HE.out.1.mono (T := fun b => b = bk ∨ some b = (Value.slice A es.length c).ownBlock) (fun k _ h => .inr h)).trans (hC.mono (T := fun b => b = bk ∨ some b = (Value.slice A es.length c).ownBlock) (fun k _ h => .inl h)) (fun _ _ h => h)) (fun _ _ h => h)
    refine ⟨HS.out.1.push hall (HE.out.2.2.2.set 1 _) ?_ (hC.owns HE.out.2.1 (fun k hk e => hgb ((show g = k from (by simpa [Value.ownBlock] using hk)).trans e))) ?_ HS.out.2.1 HS.out.2.2 hl (by omega) hle, hall, fun b hb => ?_⟩
    · rw [Array.getElem?_setIfInBounds_self_of_lt (by simp; omega)]
    · rcases HE.out.2.2.1 with h | h
      · exact .inl h
      · exact .inr (by omega)
    · have e1 : g = b := by simpa [Value.ownBlock] using hb
      rw [← e1]
      rcases HE.out.2.2.1 with h | h
      · exact .inl h
      · exact .inr (by omega)
  refine AllReadyH.cons (o := ⟨some 22, _, _, _, _, _⟩) rfl (fun K hK => ?_) AllReadyH.nil
  go_simp
  refine hK.out _ _ ?_ (fun hHeld1 => ?_)
  · (try dsimp only)
    first | exact d0 | exact e0 | exact g0 | exact k0
  clear hK K hHeld0
  (try simp only [Act.put, List.setIfInBounds_toArray, List.set_cons_zero, List.set_cons_succ])
  refine wpAnyH_ready (rs := [4]) (by kernel_rfl) (by simp) ?_
  refine AllReadyH.cons (o := ⟨some 15, _, _, _, _, _⟩) rfl (fun K hK => ?_) AllReadyH.nil
  go_simp
  refine hK.out _ _ ?_ (fun hHeld2 => ?_)
  · (try dsimp only)
    first | exact d0 | exact e0 | exact g0 | exact k0
  clear hK K hHeld1
  (try simp only [Act.put, List.setIfInBounds_toArray, List.set_cons_zero, List.set_cons_succ])
  refine wpAnyH_ready (rs := [12]) (by kernel_rfl) (by simp) ?_
  refine AllReadyH.cons (o := ⟨some 23, _, _, _, _, _⟩) rfl (fun K hK => ?_) AllReadyH.nil
  refine step_append_lies _ (by rfl) _ _ _ (by rfl) B 98 i0 _ 3 56 Tryz.underlying36 HZ.out.1 HZ.out.2.1 HZ.out.2.2.1 HZ.out.2.2.2 rfl (by omega) (.slice A es.length c) es.length (flat es) (by rfl) ((HR.out.2.1.alloc _).drew)
    ⟨W1.heap.size, 0, none⟩ 1 1 [.slice vA len vc, .slice none 0 0, .int .i64 ((n : Int) + 1)] (by rfl) (by rfl) (World.news_of_block (cs := #[.slice vA len vc, .slice none 0 0, .int .i64 ((n : Int) + 1)]) (t := 98) (fr := (0, 0)) (heap_alloc_new W1 _)) (by simp [Value.oneCell'])
    (by omega) (by unfold maxLen; omega) (by omega) (by simp; omega) (W1.heap.size + 1) (by simp) ?_
  intro g cap w2 ho2 hg2 hat2 hl2
  have hC2 : Chg W1 w2 (fun b => some b = (Value.slice A es.length c).ownBlock) := (((Chg.refl W1 _).alloc _).drew).trans (Chg.grown hg2) (fun _ _ h => h)
  have hgb : g ≠ bk := fun e => by
    rcases hat2 with h | h
    · exact hkr (by rw [h, e])
    · omega
  have hh2 := hC2.holds (fun h => hkr h.symm) HR.out.1
  have g0 := hC2.cell (p := ⟨bk, 0, none⟩) (fun h => hkr h.symm) d0
  have g3 := hC2.cell (p := ⟨bk, 1, none⟩) (fun h => hkr h.symm) d3
  have q3 := hh2.free 1
  have k0 := cell_off (i := 1) (j := 0) (by omega) (.slice (some ⟨g, 0, none⟩) (es.length + 1) cap) g0
  have HE := Lib.hid (And.intro hC2 (And.intro ho2 (And.intro hat2 hh2)))
  clear hC2 ho2 hat2 hh2 hg2
  refine hK.out _ _ ?_ (fun hHeld3 => ?_)
  · (try dsimp only)
    first | exact d0 | exact e0 | exact g0 | exact k0
  clear hK K hHeld2
  (try simp only [Act.put, List.setIfInBounds_toArray, List.set_cons_zero, List.set_cons_succ])
  refine wpAnyH_take (i := 13) (oi := ⟨some 24, _, _, _, _, _⟩) (v := ?_) rfl (by kernel_rfl) (by kernel_rfl) (by kernel_rfl) (fun _ _ _ h => h) (Or.inl ⟨by kernel_rfl, ?_⟩) (by assumption) ?_
  rotate_left
  · (intro w hSw; (try dsimp only at hSw); go_simp; (first | done | with_reducible rfl))
  (try simp only [Act.put, List.setIfInBounds_toArray, List.set_cons_zero, List.set_cons_succ])
  refine wpAnyH_take (i := 14) (oi := ⟨some 25, _, _, _, _, _⟩) (v := ?_) rfl (by kernel_rfl) (by kernel_rfl) (by kernel_rfl) (fun _ _ _ h => h) (Or.inl ⟨by kernel_rfl, ?_⟩) (by assumption) ?_
  rotate_left
  · (intro w hSw; (try dsimp only at hSw); go_simp; (first | done | with_reducible rfl))
  (try simp only [Act.put, List.setIfInBounds_toArray, List.set_cons_zero, List.set_cons_succ])
  refine wpAnyH_ready (rs := [15]) (by kernel_rfl) (by simp) ?_
  refine AllReadyH.cons rfl (fun K hK => ?_) AllReadyH.nil
  go_simp
  refine hK.out _ _ ?_ (fun hHeld4 => ?_)
  · (try dsimp only)
    first | exact d0 | exact e0 | exact g0 | exact k0
  clear hK K hHeld3
  (try simp only [Act.put, List.setIfInBounds_toArray, List.set_cons_zero, List.set_cons_succ])
  refine wpAnyH_done (by kernel_rfl) ?_ _
  go_wp2
  go_end0
  refine ⟨rfl, some ⟨g, 0, none⟩, cap, ?_⟩
  have hC := Chg.set w2 ⟨bk, 1, none⟩ (.slice (some ⟨g, 0, none⟩) (es.length + 1) cap)
  have hall : Chg W (w2.setCell ⟨bk, 1, none⟩ (.slice (some ⟨g, 0, none⟩) (es.length + 1) cap)) (fun b => b = bk ∨ some b = (Value.slice A es.length c).ownBlock) :=
    (HR.out.2.2.1.mono (T := fun b => b = bk ∨ some b = (Value.slice A es.length c).ownBlock) (fun k _ h => .inl h)).trans ((HE.out.1.mono (T := fun b => b = bk ∨ some b = (Value.slice A es.length c).ownBlock) (fun k _ h => .inr h)).trans (hC.mono (T := fun b => b = bk ∨ some b = (Value.slice A es.length c).ownBlock) (fun k _ h => .inl h)) (fun _ _ h => h)) (fun _ _ h => h)
  refine ⟨HS.out.1.push hall (HE.out.2.2.2.set 1 _) ?_ (hC.owns HE.out.2.1 (fun k hk e => hgb ((show g = k from (by simpa [Value.ownBlock] using hk)).trans e))) ?_ HS.out.2.1 HS.out.2.2 hl (by omega) hle, hall, fun b hb => ?_⟩
  · rw [Array.getElem?_setIfInBounds_self_of_lt (by simp; omega)]
  · rcases HE.out.2.2.1 with h | h
    · exact .inl h
    · exact .inr (by omega)
  · have e1 : g = b := by simpa [Value.ownBlock] using hb
    rw [← e1]
    rcases HE.out.2.2.1 with h | h
    · exact .inl h
    · exact .inr (by omega)
end Go.Proofs.YtggnkpblfmjbcaaGreatDoor.ByteB
namespace Go.Proofs.YtggnkpblfmjbcaaGreatDoor.ByteB
open Go.RowKit Go.Bd
structure In (O : Nat → Option Obj) (B : Nat) (w : World) (bk : Nat) (cs : Array Value) (A : Option Addr) (c : Nat) (es : List Ent) (k : Nat) (e : Ent) (hB : Nat) (hcs : Array Value) (i : Nat) (L : Value) (W : World) : Prop where
  tx : TxSt O B w W bk cs A c es
  he : es[k]? = some e
  sl : ∃ vA vc, e.v = .slice vA e.len vc ∧ (0 < e.len → ∃ b, vA = some ⟨b, 0, none⟩)
  done : ∀ (j : Nat) f, es[j]? = some f → (j < k → Gn W bk A c es k f) ∧ (k < j → W.ownsRow B 5 1 f.v f.len (List.replicate f.len (.int .u8 (bmark f.n))))
  gB : ∀ (j : Nat) f g cap, es[j]? = some f → j < k → f.lg = .slice (some ⟨g, 0, none⟩) (f.len + 40) cap → g < hB
  own : W.ownsRow B 5 1 L (e.len + i) (List.replicate (e.len + i) (.int .u8 (bmark e.n)))
  at' : L.ownBlock = e.v.ownBlock ∨ ∃ g, L.ownBlock = some g ∧ hB < g
  vlt : ∀ (j : Nat) f b, es[j]? = some f → f.v.ownBlock = some b → b < hB
  stay : ∀ b, e.v.ownBlock = some b → ∀ i, i < e.len → W.cell? ⟨b, i, none⟩ = some (.int .u8 (bmark e.n))
  hh : Holds W hB tH hcs
  sz : hB < W.heap.size
  bkl : bk < hB
  kl : ∀ (b : Nat) o, O b = some o → b < hB
  rwl : ∀ b, (Value.slice A es.length c).ownBlock = some b → b < hB
section
variable {O : Nat → Option Obj} {B : Nat} {w W W' : World} {bk : Nat} {cs : Array Value} {A : Option Addr} {c : Nat} {es : List Ent} {k : Nat} {e : Ent} {hB : Nat} {hcs : Array Value} {i : Nat} {L : Value}
theorem In.away (h : In O B w bk cs A c es k e hB hcs i L W) {b : Nat} (hb : some b = L.ownBlock) : (B ≤ b ∧ O b = none) ∧ b ≠ hB ∧ b ≠ bk ∧ (Value.slice A es.length c).ownBlock ≠ some b ∧ (∀ (j : Nat) f, j ≠ k → es[j]? = some f → f.v.ownBlock ≠ some b) ∧
    ∀ (j : Nat) f g cap, es[j]? = some f → j < k → f.lg = .slice (some ⟨g, 0, none⟩) (f.len + 40) cap → g ≠ b := by
  have h1 := (h.own.lt b hb.symm).1
  rcases h.at' with h2 | ⟨g, h2, h3⟩
  · rw [h2] at hb
    have h4 := h.vlt k e b h.he hb.symm
    refine ⟨⟨h1, h.tx.offV h.he hb.symm⟩, by omega, fun e' => (h.tx.ap k e h.he).1 (by rw [← hb, e']), fun e' => (h.tx.ap k e h.he).2 b hb.symm e', fun j f hj hf hx => h.tx.un k j e f (fun e => hj e.symm) h.he hf b hb.symm hx, fun j f g cap hf hj hl hg => ?_⟩
    obtain ⟨g', cap', e1, _, _, _, e2⟩ := ((h.done j f hf).1 hj).new
    rw [hl] at e1
    injection e1 with e1
    have e3 : g = g' := by simpa using e1
    exact e2 k e (Nat.le_refl _) h.he (by rw [← hb, ← e3, hg])
  · rw [h2] at hb
    have e0 : b = g := by simpa using hb
    subst e0
    have := h.bkl
    refine ⟨⟨h1, by cases ho : O b with | none => rfl | some o => (have := h.kl b o ho; omega)⟩, by omega, by omega, fun hx => by have := h.rwl b hx; omega, fun j f _ hf hx => by have := h.vlt j f b hf hx; omega, fun j f g cap hf hj hl hg => by have := h.gB j f g cap hf hj hl; omega⟩
theorem In.step (h : In O B w bk cs A c es k e hB hcs i L W) (hc : Chg W W' (fun b => some b = L.ownBlock)) {g cap : Nat}
    (ho : W'.ownsRow B 5 1 (.slice (some ⟨g, 0, none⟩) (e.len + i + 1) cap) (e.len + i + 1) (List.replicate (e.len + i) (.int .u8 (bmark e.n)) ++ [.int .u8 (bmark e.n)])) (ha : L.ownBlock = some g ∨ W.heap.size ≤ g)
    (hs : ∀ g0, L.ownBlock = some g0 → ∀ (j : Nat) x, (List.replicate (e.len + i) (Value.int .u8 (bmark e.n)))[j]? = some x → W'.cell? ⟨g0, j, none⟩ = some x) :
    In O B w bk cs A c es k e hB hcs (i + 1) (.slice (some ⟨g, 0, none⟩) (e.len + i + 1) cap) W' where
  tx := h.tx.chg hc (fun _ hb => (h.away hb).1) (fun hb => (h.away hb).2.2.1 rfl) (fun b hr hb => (h.away hb).2.2.2.1 hr)
  he := h.he
  sl := h.sl
  done := fun j f hf => by
    obtain ⟨d1, d2⟩ := h.done j f hf
    refine ⟨fun hj => (d1 hj).chg hc (fun b hv hb => (h.away hb).2.2.2.2.1 j f (by omega) hf hv) (fun g cap hl hb => (h.away hb).2.2.2.2.2 j f g cap hf hj hl rfl), fun hj => hc.owns (d2 hj) (fun b hv hb => (h.away hb).2.2.2.2.1 j f (by omega) hf hv)⟩
  gB := h.gB
  own := by
    rw [← List.replicate_succ'] at ho
    exact ho
  at' := by
    rcases ha with ha | ha
    · rcases h.at' with h2 | ⟨g', h2, h3⟩
      · exact .inl (by rw [← h2, ha]; rfl)
      · rw [ha] at h2
        have e0 : g = g' := by simpa using h2
        exact .inr ⟨g, rfl, by omega⟩
    · exact .inr ⟨g, rfl, by have := h.sz; omega⟩
  vlt := h.vlt
  stay := fun b hb j hj => by
    by_cases hS : some b = L.ownBlock
    · exact hs b hS.symm j _ (by rw [List.getElem?_replicate, if_pos (by omega)])
    · exact hc.cell hS (h.stay b hb j hj)
  hh := hc.holds (fun hb => (h.away hb).2.1 rfl) h.hh
  sz := Nat.lt_of_lt_of_le h.sz hc.size
  bkl := h.bkl
  kl := h.kl
  rwl := h.rwl
theorem In.done' (h : In O B w bk cs A c es k e hB hcs 40 L W) {tr : Nat} (hA : A = some ⟨tr, 0, none⟩) : ∃ g cap, L = .slice (some ⟨g, 0, none⟩) (e.len + 40) cap ∧
    TxSt O B w (W.setCell ⟨tr, k * 3 + 1, none⟩ L) bk cs A c (es.set k { e with lg := L }) ∧ Gl B (W.setCell ⟨tr, k * 3 + 1, none⟩ L) bk A c (es.set k { e with lg := L }) (k + 1) := by
  obtain ⟨g, cap, hL, _⟩ := own_some h.own (by omega)
  subst hL
  refine ⟨g, cap, rfl, h.tx.store h.he hA _ _ _ (fun b hb => (h.away hb.symm).1.2), ?_⟩
  subst hA
  have hgl := h.away (b := g) rfl
  have hc := Chg.set W ⟨tr, k * 3 + 1, none⟩ (.slice (some ⟨g, 0, none⟩) (e.len + 40) cap)
  have hvt : ∀ (j : Nat) f b, es[j]? = some f → f.v.ownBlock = some b → b ≠ tr := fun j f b hf hb e' => (h.tx.ap j f hf).2 b hb (by rw [e']; rfl)
  have hkl : k < es.length := (List.getElem?_eq_some_iff.1 h.he).1
  intro j f' hf'
  rw [List.getElem?_set] at hf'
  split at hf'
  · rename_i hk
    subst hk
    obtain rfl := Option.some.inj hf'
    refine ⟨fun _ => ⟨fun b hb i hi => hc.cell (hvt k e b h.he hb) (h.stay b hb i hi), fun b hb => Nat.lt_of_lt_of_le (Nat.lt_trans (h.vlt k e b h.he hb) h.sz) hc.size, h.sl, g, cap, rfl, fun i hi => hc.cell (fun e' => hgl.2.2.2.1 (by have e2 : g = tr := e'; rw [e2]; rfl)) (own_cell h.own (by rw [List.getElem?_replicate, if_pos hi])), hgl.2.2.1, by rw [List.length_set]; exact hgl.2.2.2.1, fun j f hj hf => ?_⟩, fun hj => absurd hj (by omega)⟩
    rw [List.getElem?_set, if_neg (by omega)] at hf
    exact hgl.2.2.2.2.1 j f (by omega) hf
  · rename_i hk
    obtain ⟨d1, d2⟩ := h.done j f' hf'
    refine ⟨fun hj => ?_, fun hj => own_far (d2 (by omega)) (fun e' => hvt j f' tr hf' e' rfl) _⟩
    have hj' : j < k := by omega
    have d := (d1 hj').chg hc (fun b hb => hvt j f' b hf' hb) (fun g' cap' hl e' => by
      obtain ⟨g2, cap2, e1, _, _, e3, _⟩ := (d1 hj').new
      rw [hl] at e1
      injection e1 with e1
      have e4 : g' = g2 := by simpa using e1
      exact e3 (by have e2 : g' = tr := e'; rw [← e4, e2]; rfl))
    obtain ⟨g2, cap2, e1, e2, e3, e4, e5⟩ := d.new
    refine ⟨d.old, d.lt, d.sl, g2, cap2, e1, e2, e3, by rw [List.length_set]; exact e4, fun i f hi hf => ?_⟩
    rw [List.getElem?_set, if_neg (by omega)] at hf
    exact e5 i f (by omega) hf
end
end Go.Proofs.YtggnkpblfmjbcaaGreatDoor.ByteB
namespace Go.Proofs.YtggnkpblfmjbcaaGreatDoor.ByteB
open Go.RowKit Go.Bd
set_option maxRecDepth 100000 in
set_option maxHeartbeats 4000000 in
theorem lookByte_any {O : Nat → Option Obj} {B : Nat} {w W : World} {bk : Nat} {cs : Array Value} {A : Option Addr} {c : Nat} {es : List Ent} (hs : TxSt O B w W bk cs A c es) (hg : Gl B W bk A c es es.length) :
    Calls Tryz.prog 78 #[.pointer (some ⟨bk, 0, none⟩)] W fun e W' => e = .returned (.bool true) ∧ Chg W W' (fun _ => False) := by
  obtain ⟨m, hm⟩ : ∃ m, es.length = m := ⟨_, rfl⟩
  have hm1 : m ≤ 1000000 := by rw [← hm]; exact hs.sm.1
  have HS := Lib.hid (And.intro hs (And.intro hg hm))
  clear hs hg hm
  go_enter Tryz.func78, Tryz.ntmps78
  go_wp2
  go_loopg [3] m (fun q i wr => ∃ (k : Nat), k + q = m ∧ i = .int .i64 (k : Int) ∧ Hid (Chg W wr (fun _ => False)))
  case atStart => exact ⟨0, by omega, rfl, Chg.refl _ _⟩
  case round =>
    obtain ⟨k, hk, rfl, HC⟩ := hrel
    obtain ⟨gO, hgO⟩ : ∃ x, x = gk := ⟨_, rfl⟩
    subst hgO
    obtain ⟨wO, hwO⟩ : ∃ x, x = wr := ⟨_, rfl⟩
    subst hwO
    have HT := Lib.hid (HS.out.1.chg HC.out (fun _ h => h.elim) (fun h => h) (fun _ _ h => h))
    have HM := Lib.hid HS.out.2.2
    have b3 := (HT.out.hbk.cell 1).trans HT.out.c3
    rw [HM.out] at b3
    by_cases hlt : k < m
    · obtain ⟨e, he⟩ : ∃ x, es[k]? = some x := ⟨_, List.getElem?_eq_getElem (by rw [HM.out]; exact hlt)⟩
      have hrow := HT.out.row
      rw [HM.out] at hrow
      rcases hrow.2 with ⟨_, h0⟩ | ⟨tr, tc, cur, hv, _⟩
      · omega
      injection hv with e1 e2 e3
      subst e1
      subst e3
      have r0 := hrow.cells (g := tr) rfl (k * 3 + 0) _ (flat_at he rfl)
      have r1 := hrow.cells (g := tr) rfl (k * 3 + 1) _ (flat_at he rfl)
      have r2 := hrow.cells (g := tr) rfl (k * 3 + 2) _ (flat_at he rfl)
      rw [addr_add] at r0 r1 r2
      rw [Nat.add_zero] at r0
      have HG := Lib.hid ((HS.out.2.1 k e he).1 (by rw [HM.out]; exact hlt))
      obtain ⟨g, cap, hlg, _⟩ := HG.out.new
      obtain ⟨hen, hel, _⟩ := HT.out.sm.2 k e he
      obtain ⟨vA, vc, hev, hvA⟩ := HG.out.sl
      have HVA := Lib.hid hvA
      clear hvA
      rw [hev] at r0
      rw [hlg] at r1
      have HEV := Lib.hid hev
      have HLG := Lib.hid hlg
      have hneq : ((e.len + 40 : Nat) : Int) = (e.len : Int) + 40 := by omega
      clear he hrow hev hlg
      go_wp2
      go_loopg [5] (e.len + 40) (fun q vi wi => ∃ i : Nat, i + q = e.len + 40 ∧ vi = .int .i64 (i : Int) ∧ Hid (Chg W wi (fun _ => False) ∧ Holds wi wO.heap.size 98 #[.slice vA e.len vc, .slice (some ⟨g, 0, none⟩) (e.len + 40) cap, .int .i64 (e.n : Int)]))
      case atStart => exact ⟨0, by omega, rfl, HC.out.alloc _, Holds.new wO _ _⟩
      case round =>
        obtain ⟨i, hi, rfl, HI⟩ := hrel
        have x0 := HI.out.2.cell 0
        have x1 := HI.out.2.cell 1
        have x2 := HI.out.2.cell 2
        by_cases hil : i < e.len + 40
        · have hnext : ∀ w' w2, Hid (Chg W w' (fun _ => False) ∧ Holds w' wO.heap.size 98 #[.slice vA e.len vc, .slice (some ⟨g, 0, none⟩) (e.len + 40) cap, .int .i64 (e.n : Int)]) → Below w'.heap.size w' w2 → Hid (Chg W w2 (fun _ => False) ∧ Holds w2 wO.heap.size 98 #[.slice vA e.len vc, .slice (some ⟨g, 0, none⟩) (e.len + 40) cap, .int .i64 (e.n : Int)]) := fun w' w2 h hb =>
            ⟨h.out.1.trans (Chg.below hb _) (fun _ _ h => h), (Chg.below hb (fun _ => False)).holds (fun h => h) h.out.2⟩
          have htab : ∀ w', Hid (Chg W w' (fun _ => False) ∧ Holds w' wO.heap.size 98 #[.slice vA e.len vc, .slice (some ⟨g, 0, none⟩) (e.len + 40) cap, .int .i64 (e.n : Int)]) → Tab w' := fun w' h => (HS.out.1.chg h.out.1 (fun _ h => h.elim) (fun h => h) (fun _ _ h => h)).tab
          have hcell : ∀ w', Hid (Chg W w' (fun _ => False) ∧ Holds w' wO.heap.size 98 #[.slice vA e.len vc, .slice (some ⟨g, 0, none⟩) (e.len + 40) cap, .int .i64 (e.n : Int)]) → w'.cell? ⟨wO.heap.size, 0, none⟩ = some (.slice vA e.len vc) ∧ w'.cell? ⟨wO.heap.size, 1, none⟩ = some (.slice (some ⟨g, 0, none⟩) (e.len + 40) cap) ∧ w'.cell? ⟨wO.heap.size, 2, none⟩ = some (.int .i64 (e.n : Int)) ∧ w'.cell? ⟨g, i, none⟩ = some (.int .u8 (bmark e.n)) := fun w' h => by
            refine ⟨h.out.2.cell 0, h.out.2.cell 1, h.out.2.cell 2, ?_⟩
            obtain ⟨g2, cap2, e1, e2, _⟩ := (HG.out.chg h.out.1 (fun _ _ h => h) (fun _ _ _ h => h)).new
            rw [HLG.out] at e1
            injection e1 with e1
            have e4 : g = g2 := by simpa using e1
            rw [e4]
            exact e2 i hil
          have hK0 : Hid (Chg W wr.drew (fun _ => False) ∧ Holds wr.drew wO.heap.size 98 #[.slice vA e.len vc, .slice (some ⟨g, 0, none⟩) (e.len + 40) cap, .int .i64 (e.n : Int)]) := ⟨HI.out.1.drew, HI.out.2⟩
          clear HI HLG
          have HNX := Lib.hid hnext
          have HTB := Lib.hid htab
          have HCL := Lib.hid hcell
          clear hnext htab hcell
          by_cases hiv : i < e.len
          · obtain ⟨b, rfl⟩ := HVA.out (by omega)
            have hcellv : ∀ w', Hid (Chg W w' (fun _ => False) ∧ Holds w' wO.heap.size 98 #[.slice (some ⟨b, 0, none⟩) e.len vc, .slice (some ⟨g, 0, none⟩) (e.len + 40) cap, .int .i64 (e.n : Int)]) → w'.cell? ⟨b, i, none⟩ = some (.int .u8 (bmark e.n)) := fun w' h =>
              (HG.out.chg h.out.1 (fun _ _ h => h) (fun _ _ _ h => h)).old b (by rw [HEV.out]; rfl) i hiv
            have HCV := Lib.hid hcellv
            clear hcellv
            obtain ⟨y0, y1, y2, y3⟩ := HCL.out _ hK0
            have y4 := HCV.out _ hK0
            go_wp2_with fail
            refine wp_region_held_drew (S := (fun w' => w'.cell? ⟨wO.heap.size, 0, none⟩ = some (.slice (some ⟨b, 0, none⟩) e.len vc) ∧ w'.cell? ⟨wO.heap.size, 1, none⟩ = some (.slice (some ⟨g, 0, none⟩) (e.len + 40) cap) ∧ w'.cell? ⟨wO.heap.size, 2, none⟩ = some (.int .i64 (e.n : Int)) ∧ w'.cell? ⟨g, i, none⟩ = some (.int .u8 (bmark e.n)) ∧ w'.cell? ⟨b, i, none⟩ = some (.int .u8 (bmark e.n)))) (by kernel_rfl) ?_ (fun hHeld0 => ?_)
            · (try dsimp only)
              first | exact ⟨y0, y1, y2, y3, y4⟩ | exact ⟨z0, z1, z2, z3, z4⟩ | exact ⟨u0, u1, u2, u3, u4⟩
            refine wpAnyH_take (i := 0) (oi := ⟨some 37, _, _, _, _, _⟩) (v := ?_) rfl (by kernel_rfl) (by kernel_rfl) (by kernel_rfl) (fun _ _ _ h => h) (Or.inl ⟨by kernel_rfl, ?_⟩) (by assumption) ?_
            rotate_left
            · (intro w hSw; (try dsimp only at hSw); go_simp; (first | done | with_reducible rfl))
            (try simp only [Act.put, List.setIfInBounds_toArray, List.set_cons_zero, List.set_cons_succ])
            refine wpAnyH_take (i := 1) (oi := ⟨some 38, _, _, _, _, _⟩) (v := ?_) rfl (by kernel_rfl) (by kernel_rfl) (by kernel_rfl) (fun _ _ _ h => h) (Or.inl ⟨by kernel_rfl, ?_⟩) (by assumption) ?_
            rotate_left
            · (intro w hSw; (try dsimp only at hSw); go_simp; (first | done | with_reducible rfl))
            (try simp only [Act.put, List.setIfInBounds_toArray, List.set_cons_zero, List.set_cons_succ])
            refine wpAnyH_take (i := 2) (oi := ⟨some 39, _, _, _, _, _⟩) (v := ?_) rfl (by kernel_rfl) (by kernel_rfl) (by kernel_rfl) (fun _ _ _ h => h) (Or.inl ⟨by kernel_rfl, ?_⟩) (by assumption) ?_
            rotate_left
            · (intro w hSw; (try dsimp only at hSw); go_simp; (first | done | with_reducible rfl))
            (try simp only [Act.put, List.setIfInBounds_toArray, List.set_cons_zero, List.set_cons_succ])
            refine wpAnyH_take (i := 3) (oi := ⟨some 40, _, _, _, _, _⟩) (v := ?_) rfl (by kernel_rfl) (by kernel_rfl) (by kernel_rfl) (fun _ _ _ h => h) (Or.inl ⟨by kernel_rfl, ?_⟩) (by assumption) ?_
            rotate_left
            · (intro w hSw; (try dsimp only at hSw); go_simp; (first | done | with_reducible rfl))
            (try simp only [Act.put, List.setIfInBounds_toArray, List.set_cons_zero, List.set_cons_succ])
            refine wpAnyH_take (i := 4) (oi := ⟨some 41, _, _, _, _, _⟩) (v := ?_) rfl (by kernel_rfl) (by kernel_rfl) (by kernel_rfl) (fun _ _ _ h => h) (Or.inl ⟨by kernel_rfl, ?_⟩) (by assumption) ?_
            rotate_left
            · (intro w hSw; (try dsimp only at hSw); go_simp; (first | done | with_reducible rfl))
            (try simp only [Act.put, List.setIfInBounds_toArray, List.set_cons_zero, List.set_cons_succ])
            refine wpAnyH_take (i := 5) (oi := ⟨some 42, _, _, _, _, _⟩) (v := ?_) rfl (by kernel_rfl) (by kernel_rfl) (by kernel_rfl) (fun _ _ _ h => h) (Or.inl ⟨by kernel_rfl, ?_⟩) (by assumption) ?_
            rotate_left
            · (intro w hSw; (try dsimp only at hSw); go_simp; (first | done | with_reducible rfl))
            (try simp only [Act.put, List.setIfInBounds_toArray, List.set_cons_zero, List.set_cons_succ])
            refine wpAnyH_take (i := 6) (oi := ⟨some 43, _, _, _, _, _⟩) (v := ?_) rfl (by kernel_rfl) (by kernel_rfl) (by kernel_rfl) (fun _ _ _ h => h) (Or.inl ⟨by kernel_rfl, ?_⟩) (by assumption) ?_
            rotate_left
            · (intro w hSw; (try dsimp only at hSw); go_simp; (first | done | with_reducible rfl))
            (try simp only [Act.put, List.setIfInBounds_toArray, List.set_cons_zero, List.set_cons_succ])
            refine wpAnyH_ready (rs := [7]) (by kernel_rfl) (by simp) ?_
            refine AllReadyH.cons (o := ⟨some 44, _, _, _, _, _⟩) rfl (fun K hK => ?_) AllReadyH.nil
            go_simp
            refine (isByte_any e.n (by omega) _ (HTB.out _ hK0)).mono ?_
            rintro e' w3 ⟨rfl, hb3⟩
            have hK1 := HNX.out _ _ hK0 hb3
            obtain ⟨z0, z1, z2, z3⟩ := HCL.out _ hK1
            have z4 := HCV.out _ hK1
            clear hb3
            go_wp2_with fail
            refine hK.out _ _ ?_ (fun hHeld1 => ?_)
            · (try dsimp only)
              first | exact ⟨y0, y1, y2, y3, y4⟩ | exact ⟨z0, z1, z2, z3, z4⟩ | exact ⟨u0, u1, u2, u3, u4⟩
            clear hK K hHeld0
            (try simp only [Act.put, List.setIfInBounds_toArray, List.set_cons_zero, List.set_cons_succ])
            refine wpAnyH_take (i := 8) (oi := ⟨some 45, _, _, _, _, _⟩) (v := ?_) rfl (by kernel_rfl) (by kernel_rfl) (by kernel_rfl) (fun _ _ _ h => h) (Or.inl ⟨by kernel_rfl, ?_⟩) (by assumption) ?_
            rotate_left
            · (intro w hSw; (try dsimp only at hSw); go_simp; (first | done | with_reducible rfl))
            (try simp only [Act.put, List.setIfInBounds_toArray, List.set_cons_zero, List.set_cons_succ])
            refine wpAnyH_take (i := 9) (oi := ⟨some 46, _, _, _, _, _⟩) (v := ?_) rfl (by kernel_rfl) (by kernel_rfl) (by kernel_rfl) (fun _ _ _ h => h) (Or.inl ⟨by kernel_rfl, ?_⟩) (by assumption) ?_
            rotate_left
            · (intro w hSw; (try dsimp only at hSw); go_simp; (first | done | with_reducible rfl))
            (try simp only [Act.put, List.setIfInBounds_toArray, List.set_cons_zero, List.set_cons_succ])
            refine wpAnyH_take (i := 10) (oi := ⟨some 47, _, _, _, _, _⟩) (v := ?_) rfl (by kernel_rfl) (by kernel_rfl) (by kernel_rfl) (fun _ _ _ h => h) (Or.inl ⟨by kernel_rfl, ?_⟩) (by assumption) ?_
            rotate_left
            · (intro w hSw; (try dsimp only at hSw); go_simp; (first | done | with_reducible rfl))
            (try simp only [Act.put, List.setIfInBounds_toArray, List.set_cons_zero, List.set_cons_succ])
            refine wpAnyH_take (i := 11) (oi := ⟨some 48, _, _, _, _, _⟩) (v := ?_) rfl (by kernel_rfl) (by kernel_rfl) (by kernel_rfl) (fun _ _ _ h => h) (Or.inl ⟨by kernel_rfl, ?_⟩) (by assumption) ?_
            rotate_left
            · (intro w hSw; (try dsimp only at hSw); go_simp; (first | done | with_reducible rfl))
            (try simp only [Act.put, List.setIfInBounds_toArray, List.set_cons_zero, List.set_cons_succ])
            refine wpAnyH_take (i := 12) (oi := ⟨some 49, _, _, _, _, _⟩) (v := ?_) rfl (by kernel_rfl) (by kernel_rfl) (by kernel_rfl) (fun _ _ _ h => h) (Or.inl ⟨by kernel_rfl, ?_⟩) (by assumption) ?_
            rotate_left
            · (intro w hSw; (try dsimp only at hSw); go_simp; (first | done | with_reducible rfl))
            (try simp only [Act.put, List.setIfInBounds_toArray, List.set_cons_zero, List.set_cons_succ])
            refine wpAnyH_take (i := 13) (oi := ⟨some 50, _, _, _, _, _⟩) (v := ?_) rfl (by kernel_rfl) (by kernel_rfl) (by kernel_rfl) (fun _ _ _ h => h) (Or.inl ⟨by kernel_rfl, ?_⟩) (by assumption) ?_
            rotate_left
            · (intro w hSw; (try dsimp only at hSw); go_simp; (first | done | with_reducible rfl))
            (try simp only [Act.put, List.setIfInBounds_toArray, List.set_cons_zero, List.set_cons_succ])
            refine wpAnyH_take (i := 14) (oi := ⟨some 51, _, _, _, _, _⟩) (v := ?_) rfl (by kernel_rfl) (by kernel_rfl) (by kernel_rfl) (fun _ _ _ h => h) (Or.inl ⟨by kernel_rfl, ?_⟩) (by assumption) ?_
            rotate_left
            · (intro w hSw; (try dsimp only at hSw); go_simp; (first | done | with_reducible rfl))
            (try simp only [Act.put, List.setIfInBounds_toArray, List.set_cons_zero, List.set_cons_succ])
            refine wpAnyH_take (i := 15) (oi := ⟨some 52, _, _, _, _, _⟩) (v := ?_) rfl (by kernel_rfl) (by kernel_rfl) (by kernel_rfl) (fun _ _ _ h => h) (Or.inl ⟨by kernel_rfl, ?_⟩) (by assumption) ?_
            rotate_left
            · (intro w hSw; (try dsimp only at hSw); go_simp; (first | done | with_reducible rfl))
            (try simp only [Act.put, List.setIfInBounds_toArray, List.set_cons_zero, List.set_cons_succ])
            refine wpAnyH_take (i := 16) (oi := ⟨some 53, _, _, _, _, _⟩) (v := ?_) rfl (by kernel_rfl) (by kernel_rfl) (by kernel_rfl) (fun _ _ _ h => h) (Or.inl ⟨by kernel_rfl, ?_⟩) (by assumption) ?_
            rotate_left
            · (intro w hSw; (try dsimp only at hSw); go_simp; (first | done | with_reducible rfl))
            (try simp only [Act.put, List.setIfInBounds_toArray, List.set_cons_zero, List.set_cons_succ])
            refine wpAnyH_take (i := 17) (oi := ⟨some 54, _, _, _, _, _⟩) (v := ?_) rfl (by kernel_rfl) (by kernel_rfl) (by kernel_rfl) (fun _ _ _ h => h) (Or.inl ⟨by kernel_rfl, ?_⟩) (by assumption) ?_
            rotate_left
            · (intro w hSw; (try dsimp only at hSw); go_simp; (first | done | with_reducible rfl))
            (try simp only [Act.put, List.setIfInBounds_toArray, List.set_cons_zero, List.set_cons_succ])
            refine wpAnyH_take (i := 18) (oi := ⟨some 55, _, _, _, _, _⟩) (v := ?_) rfl (by kernel_rfl) (by kernel_rfl) (by kernel_rfl) (fun _ _ _ h => h) (Or.inl ⟨by kernel_rfl, ?_⟩) (by assumption) ?_
            rotate_left
            · (intro w hSw; (try dsimp only at hSw); go_simp; (first | done | with_reducible rfl))
            (try simp only [Act.put, List.setIfInBounds_toArray, List.set_cons_zero, List.set_cons_succ])
            refine wpAnyH_take (i := 19) (oi := ⟨some 56, _, _, _, _, _⟩) (v := ?_) rfl (by kernel_rfl) (by kernel_rfl) (by kernel_rfl) (fun _ _ _ h => h) (Or.inl ⟨by kernel_rfl, ?_⟩) (by assumption) ?_
            rotate_left
            · (intro w hSw; (try dsimp only at hSw); go_simp; (first | done | with_reducible rfl))
            (try simp only [Act.put, List.setIfInBounds_toArray, List.set_cons_zero, List.set_cons_succ])
            refine wpAnyH_take (i := 20) (oi := ⟨some 57, _, _, _, _, _⟩) (v := ?_) rfl (by kernel_rfl) (by kernel_rfl) (by kernel_rfl) (fun _ _ _ h => h) (Or.inl ⟨by kernel_rfl, ?_⟩) (by assumption) ?_
            rotate_left
            · (intro w hSw; (try dsimp only at hSw); go_simp; (first | done | with_reducible rfl))
            (try simp only [Act.put, List.setIfInBounds_toArray, List.set_cons_zero, List.set_cons_succ])
            refine wpAnyH_take (i := 21) (oi := ⟨some 58, _, _, _, _, _⟩) (v := ?_) rfl (by kernel_rfl) (by kernel_rfl) (by kernel_rfl) (fun _ _ _ h => h) (Or.inl ⟨by kernel_rfl, ?_⟩) (by assumption) ?_
            rotate_left
            · (intro w hSw; (try dsimp only at hSw); go_simp; (first | done | with_reducible rfl))
            (try simp only [Act.put, List.setIfInBounds_toArray, List.set_cons_zero, List.set_cons_succ])
            refine wpAnyH_take (i := 22) (oi := ⟨some 59, _, _, _, _, _⟩) (v := ?_) rfl (by kernel_rfl) (by kernel_rfl) (by kernel_rfl) (fun _ _ _ h => h) (Or.inl ⟨by kernel_rfl, ?_⟩) (by assumption) ?_
            rotate_left
            · (intro w hSw; (try dsimp only at hSw); go_simp; (first | done | with_reducible rfl))
            (try simp only [Act.put, List.setIfInBounds_toArray, List.set_cons_zero, List.set_cons_succ])
            refine wpAnyH_ready (rs := [23]) (by kernel_rfl) (by simp) ?_
            refine AllReadyH.cons (o := ⟨some 60, _, _, _, _, _⟩) rfl (fun K hK => ?_) AllReadyH.nil
            go_simp
            refine (isByte_any e.n (by omega) _ (HTB.out _ hK1)).mono ?_
            rintro e' w4 ⟨rfl, hb4⟩
            have hK2 := HNX.out _ _ hK1 hb4
            obtain ⟨u0, u1, u2, u3⟩ := HCL.out _ hK2
            have u4 := HCV.out _ hK2
            clear hb4
            go_wp2_with fail
            refine hK.out _ _ ?_ (fun hHeld2 => ?_)
            · (try dsimp only)
              first | exact ⟨y0, y1, y2, y3, y4⟩ | exact ⟨z0, z1, z2, z3, z4⟩ | exact ⟨u0, u1, u2, u3, u4⟩
            clear hK K hHeld1
            (try simp only [Act.put, List.setIfInBounds_toArray, List.set_cons_zero, List.set_cons_succ])
            refine wpAnyH_take (i := 24) (oi := ⟨some 61, _, _, _, _, _⟩) (v := ?_) rfl (by kernel_rfl) (by kernel_rfl) (by kernel_rfl) (fun _ _ _ h => h) (Or.inl ⟨by kernel_rfl, ?_⟩) (by assumption) ?_
            rotate_left
            · (intro w hSw; (try dsimp only at hSw); go_simp; (first | done | with_reducible rfl))
            (try simp only [Act.put, List.setIfInBounds_toArray, List.set_cons_zero, List.set_cons_succ])
            refine wpAnyH_take (i := 25) (oi := ⟨some 62, _, _, _, _, _⟩) (v := ?_) rfl (by kernel_rfl) (by kernel_rfl) (by kernel_rfl) (fun _ _ _ h => h) (Or.inl ⟨by kernel_rfl, ?_⟩) (by assumption) ?_
            rotate_left
            · (intro w hSw; (try dsimp only at hSw); go_simp; (first | done | with_reducible rfl))
            (try simp only [Act.put, List.setIfInBounds_toArray, List.set_cons_zero, List.set_cons_succ])
            refine wpAnyH_take (i := 26) (oi := ⟨some 63, _, _, _, _, _⟩) (v := ?_) rfl (by kernel_rfl) (by kernel_rfl) (by kernel_rfl) (fun _ _ _ h => h) (Or.inl ⟨by kernel_rfl, ?_⟩) (by assumption) ?_
            rotate_left
            · (intro w hSw; (try dsimp only at hSw); go_simp; (first | done | with_reducible rfl))
            (try simp only [Act.put, List.setIfInBounds_toArray, List.set_cons_zero, List.set_cons_succ])
            refine wpAnyH_done (by kernel_rfl) ?_ _
            go_wp2
            go_roundg (gk - 1)
            case measure => omega
            case rel => exact ⟨i + 1, by omega, by go_num, hK2.out⟩
          · obtain ⟨y0, y1, y2, y3⟩ := HCL.out _ hK0
            go_wp2_with fail
            refine wp_region_held_drew (S := (fun w' => w'.cell? ⟨wO.heap.size, 0, none⟩ = some (.slice vA e.len vc) ∧ w'.cell? ⟨wO.heap.size, 1, none⟩ = some (.slice (some ⟨g, 0, none⟩) (e.len + 40) cap) ∧ w'.cell? ⟨wO.heap.size, 2, none⟩ = some (.int .i64 (e.n : Int)) ∧ w'.cell? ⟨g, i, none⟩ = some (.int .u8 (bmark e.n)))) (by kernel_rfl) ?_ (fun hHeld0 => ?_)
            · (try dsimp only)
              first | exact ⟨y0, y1, y2, y3⟩ | exact ⟨z0, z1, z2, z3⟩
            refine wpAnyH_take (i := 0) (oi := ⟨some 37, _, _, _, _, _⟩) (v := ?_) rfl (by kernel_rfl) (by kernel_rfl) (by kernel_rfl) (fun _ _ _ h => h) (Or.inl ⟨by kernel_rfl, ?_⟩) (by assumption) ?_
            rotate_left
            · (intro w hSw; (try dsimp only at hSw); go_simp; (first | done | with_reducible rfl))
            (try simp only [Act.put, List.setIfInBounds_toArray, List.set_cons_zero, List.set_cons_succ])
            refine wpAnyH_take (i := 1) (oi := ⟨some 38, _, _, _, _, _⟩) (v := ?_) rfl (by kernel_rfl) (by kernel_rfl) (by kernel_rfl) (fun _ _ _ h => h) (Or.inl ⟨by kernel_rfl, ?_⟩) (by assumption) ?_
            rotate_left
            · (intro w hSw; (try dsimp only at hSw); go_simp; (first | done | with_reducible rfl))
            (try simp only [Act.put, List.setIfInBounds_toArray, List.set_cons_zero, List.set_cons_succ])
            refine wpAnyH_take (i := 2) (oi := ⟨some 39, _, _, _, _, _⟩) (v := ?_) rfl (by kernel_rfl) (by kernel_rfl) (by kernel_rfl) (fun _ _ _ h => h) (Or.inl ⟨by kernel_rfl, ?_⟩) (by assumption) ?_
            rotate_left
            · (intro w hSw; (try dsimp only at hSw); go_simp; (first | done | with_reducible rfl))
            (try simp only [Act.put, List.setIfInBounds_toArray, List.set_cons_zero, List.set_cons_succ])
            refine wpAnyH_take (i := 3) (oi := ⟨some 40, _, _, _, _, _⟩) (v := ?_) rfl (by kernel_rfl) (by kernel_rfl) (by kernel_rfl) (fun _ _ _ h => h) (Or.inl ⟨by kernel_rfl, ?_⟩) (by assumption) ?_
            rotate_left
            · (intro w hSw; (try dsimp only at hSw); go_simp; (first | done | with_reducible rfl))
            (try simp only [Act.put, List.setIfInBounds_toArray, List.set_cons_zero, List.set_cons_succ])
            refine wpAnyH_take (i := 4) (oi := ⟨some 41, _, _, _, _, _⟩) (v := ?_) rfl (by kernel_rfl) (by kernel_rfl) (by kernel_rfl) (fun _ _ _ h => h) (Or.inl ⟨by kernel_rfl, ?_⟩) (by assumption) ?_
            rotate_left
            · (intro w hSw; (try dsimp only at hSw); go_simp; (first | done | with_reducible rfl))
            (try simp only [Act.put, List.setIfInBounds_toArray, List.set_cons_zero, List.set_cons_succ])
            refine wpAnyH_take (i := 5) (oi := ⟨some 42, _, _, _, _, _⟩) (v := ?_) rfl (by kernel_rfl) (by kernel_rfl) (by kernel_rfl) (fun _ _ _ h => h) (Or.inl ⟨by kernel_rfl, ?_⟩) (by assumption) ?_
            rotate_left
            · (intro w hSw; (try dsimp only at hSw); go_simp; (first | done | with_reducible rfl))
            (try simp only [Act.put, List.setIfInBounds_toArray, List.set_cons_zero, List.set_cons_succ])
            refine wpAnyH_take (i := 6) (oi := ⟨some 43, _, _, _, _, _⟩) (v := ?_) rfl (by kernel_rfl) (by kernel_rfl) (by kernel_rfl) (fun _ _ _ h => h) (Or.inl ⟨by kernel_rfl, ?_⟩) (by assumption) ?_
            rotate_left
            · (intro w hSw; (try dsimp only at hSw); go_simp; (first | done | with_reducible rfl))
            (try simp only [Act.put, List.setIfInBounds_toArray, List.set_cons_zero, List.set_cons_succ])
            refine wpAnyH_ready (rs := [7]) (by kernel_rfl) (by simp) ?_
            refine AllReadyH.cons (o := ⟨some 44, _, _, _, _, _⟩) rfl (fun K hK => ?_) AllReadyH.nil
            go_simp
            refine (isByte_any e.n (by omega) _ (HTB.out _ hK0)).mono ?_
            rintro e' w3 ⟨rfl, hb3⟩
            have hK1 := HNX.out _ _ hK0 hb3
            obtain ⟨z0, z1, z2, z3⟩ := HCL.out _ hK1
            clear hb3
            go_wp2_with fail
            refine hK.out _ _ ?_ (fun hHeld1 => ?_)
            · (try dsimp only)
              first | exact ⟨y0, y1, y2, y3⟩ | exact ⟨z0, z1, z2, z3⟩
            clear hK K hHeld0
            (try simp only [Act.put, List.setIfInBounds_toArray, List.set_cons_zero, List.set_cons_succ])
            refine wpAnyH_take (i := 8) (oi := ⟨some 45, _, _, _, _, _⟩) (v := ?_) rfl (by kernel_rfl) (by kernel_rfl) (by kernel_rfl) (fun _ _ _ h => h) (Or.inl ⟨by kernel_rfl, ?_⟩) (by assumption) ?_
            rotate_left
            · (intro w hSw; (try dsimp only at hSw); go_simp; (first | done | with_reducible rfl))
            (try simp only [Act.put, List.setIfInBounds_toArray, List.set_cons_zero, List.set_cons_succ])
            refine wpAnyH_take (i := 9) (oi := ⟨some 46, _, _, _, _, _⟩) (v := ?_) rfl (by kernel_rfl) (by kernel_rfl) (by kernel_rfl) (fun _ _ _ h => h) (Or.inl ⟨by kernel_rfl, ?_⟩) (by assumption) ?_
            rotate_left
            · (intro w hSw; (try dsimp only at hSw); go_simp; (first | done | with_reducible rfl))
            (try simp only [Act.put, List.setIfInBounds_toArray, List.set_cons_zero, List.set_cons_succ])
            refine wpAnyH_take (i := 10) (oi := ⟨some 47, _, _, _, _, _⟩) (v := ?_) rfl (by kernel_rfl) (by kernel_rfl) (by kernel_rfl) (fun _ _ _ h => h) (Or.inl ⟨by kernel_rfl, ?_⟩) (by assumption) ?_
            rotate_left
            · (intro w hSw; (try dsimp only at hSw); go_simp; (first | done | with_reducible rfl))
            (try simp only [Act.put, List.setIfInBounds_toArray, List.set_cons_zero, List.set_cons_succ])
            refine wpAnyH_take (i := 11) (oi := ⟨some 48, _, _, _, _, _⟩) (v := ?_) rfl (by kernel_rfl) (by kernel_rfl) (by kernel_rfl) (fun _ _ _ h => h) (Or.inl ⟨by kernel_rfl, ?_⟩) (by assumption) ?_
            rotate_left
            · (intro w hSw; (try dsimp only at hSw); go_simp; (first | done | with_reducible rfl))
            (try simp only [Act.put, List.setIfInBounds_toArray, List.set_cons_zero, List.set_cons_succ])
            refine wpAnyH_take (i := 12) (oi := ⟨some 49, _, _, _, _, _⟩) (v := ?_) rfl (by kernel_rfl) (by kernel_rfl) (by kernel_rfl) (fun _ _ _ h => h) (Or.inl ⟨by kernel_rfl, ?_⟩) (by assumption) ?_
            rotate_left
            · (intro w hSw; (try dsimp only at hSw); go_simp; (first | done | with_reducible rfl))
            (try simp only [Act.put, List.setIfInBounds_toArray, List.set_cons_zero, List.set_cons_succ])
            refine wpAnyH_take (i := 13) (oi := ⟨some 50, _, _, _, _, _⟩) (v := ?_) rfl (by kernel_rfl) (by kernel_rfl) (by kernel_rfl) (fun _ _ _ h => h) (Or.inl ⟨by kernel_rfl, ?_⟩) (by assumption) ?_
            rotate_left
            · (intro w hSw; (try dsimp only at hSw); go_simp; (first | done | with_reducible rfl))
            (try simp only [Act.put, List.setIfInBounds_toArray, List.set_cons_zero, List.set_cons_succ])
            refine wpAnyH_take (i := 14) (oi := ⟨some 51, _, _, _, _, _⟩) (v := ?_) rfl (by kernel_rfl) (by kernel_rfl) (by kernel_rfl) (fun _ _ _ h => h) (Or.inl ⟨by kernel_rfl, ?_⟩) (by assumption) ?_
            rotate_left
            · (intro w hSw; (try dsimp only at hSw); go_simp; (first | done | with_reducible rfl))
            (try simp only [Act.put, List.setIfInBounds_toArray, List.set_cons_zero, List.set_cons_succ])
            refine wpAnyH_take (i := 15) (oi := ⟨some 52, _, _, _, _, _⟩) (v := ?_) rfl (by kernel_rfl) (by kernel_rfl) (by kernel_rfl) (fun _ _ _ h => h) (Or.inl ⟨by kernel_rfl, ?_⟩) (by assumption) ?_
            rotate_left
            · (intro w hSw; (try dsimp only at hSw); go_simp; (first | done | with_reducible rfl))
            (try simp only [Act.put, List.setIfInBounds_toArray, List.set_cons_zero, List.set_cons_succ])
            refine wpAnyH_take (i := 16) (oi := ⟨some 53, _, _, _, _, _⟩) (v := undef) rfl (by kernel_rfl) (by kernel_rfl) (by kernel_rfl) (fun _ _ _ h => h) (Or.inr ⟨by kernel_rfl, rfl⟩) (by assumption) ?_
            (try simp only [Act.put, List.setIfInBounds_toArray, List.set_cons_zero, List.set_cons_succ])
            refine wpAnyH_take (i := 17) (oi := ⟨some 54, _, _, _, _, _⟩) (v := undef) rfl (by kernel_rfl) (by kernel_rfl) (by kernel_rfl) (fun _ _ _ h => h) (Or.inr ⟨by kernel_rfl, rfl⟩) (by assumption) ?_
            (try simp only [Act.put, List.setIfInBounds_toArray, List.set_cons_zero, List.set_cons_succ])
            refine wpAnyH_take (i := 18) (oi := ⟨some 55, _, _, _, _, _⟩) (v := undef) rfl (by kernel_rfl) (by kernel_rfl) (by kernel_rfl) (fun _ _ _ h => h) (Or.inr ⟨by kernel_rfl, rfl⟩) (by assumption) ?_
            (try simp only [Act.put, List.setIfInBounds_toArray, List.set_cons_zero, List.set_cons_succ])
            refine wpAnyH_take (i := 19) (oi := ⟨some 56, _, _, _, _, _⟩) (v := undef) rfl (by kernel_rfl) (by kernel_rfl) (by kernel_rfl) (fun _ _ _ h => h) (Or.inr ⟨by kernel_rfl, rfl⟩) (by assumption) ?_
            (try simp only [Act.put, List.setIfInBounds_toArray, List.set_cons_zero, List.set_cons_succ])
            refine wpAnyH_take (i := 20) (oi := ⟨some 57, _, _, _, _, _⟩) (v := undef) rfl (by kernel_rfl) (by kernel_rfl) (by kernel_rfl) (fun _ _ _ h => h) (Or.inr ⟨by kernel_rfl, rfl⟩) (by assumption) ?_
            (try simp only [Act.put, List.setIfInBounds_toArray, List.set_cons_zero, List.set_cons_succ])
            refine wpAnyH_take (i := 21) (oi := ⟨some 58, _, _, _, _, _⟩) (v := undef) rfl (by kernel_rfl) (by kernel_rfl) (by kernel_rfl) (fun _ _ _ h => h) (Or.inr ⟨by kernel_rfl, rfl⟩) (by assumption) ?_
            (try simp only [Act.put, List.setIfInBounds_toArray, List.set_cons_zero, List.set_cons_succ])
            refine wpAnyH_take (i := 22) (oi := ⟨some 59, _, _, _, _, _⟩) (v := undef) rfl (by kernel_rfl) (by kernel_rfl) (by kernel_rfl) (fun _ _ _ h => h) (Or.inr ⟨by kernel_rfl, rfl⟩) (by assumption) ?_
            (try simp only [Act.put, List.setIfInBounds_toArray, List.set_cons_zero, List.set_cons_succ])
            refine wpAnyH_take (i := 23) (oi := ⟨some 60, _, _, _, _, _⟩) (v := undef) rfl (by kernel_rfl) (by kernel_rfl) (by kernel_rfl) (fun _ _ _ h => h) (Or.inr ⟨by kernel_rfl, rfl⟩) (by assumption) ?_
            (try simp only [Act.put, List.setIfInBounds_toArray, List.set_cons_zero, List.set_cons_succ])
            refine wpAnyH_take (i := 24) (oi := ⟨some 61, _, _, _, _, _⟩) (v := undef) rfl (by kernel_rfl) (by kernel_rfl) (by kernel_rfl) (fun _ _ _ h => h) (Or.inr ⟨by kernel_rfl, rfl⟩) (by assumption) ?_
            (try simp only [Act.put, List.setIfInBounds_toArray, List.set_cons_zero, List.set_cons_succ])
            refine wpAnyH_take (i := 25) (oi := ⟨some 62, _, _, _, _, _⟩) (v := ?_) rfl (by kernel_rfl) (by kernel_rfl) (by kernel_rfl) (fun _ _ _ h => h) (Or.inl ⟨by kernel_rfl, ?_⟩) (by assumption) ?_
            rotate_left
            · (intro w hSw; (try dsimp only at hSw); go_simp; (first | done | with_reducible rfl))
            (try simp only [Act.put, List.setIfInBounds_toArray, List.set_cons_zero, List.set_cons_succ])
            refine wpAnyH_take (i := 26) (oi := ⟨some 63, _, _, _, _, _⟩) (v := ?_) rfl (by kernel_rfl) (by kernel_rfl) (by kernel_rfl) (fun _ _ _ h => h) (Or.inl ⟨by kernel_rfl, ?_⟩) (by assumption) ?_
            rotate_left
            · (intro w hSw; (try dsimp only at hSw); go_simp; (first | done | with_reducible rfl))
            (try simp only [Act.put, List.setIfInBounds_toArray, List.set_cons_zero, List.set_cons_succ])
            refine wpAnyH_done (by kernel_rfl) ?_ _
            go_wp2
            go_roundg (gk - 1)
            case measure => omega
            case rel => exact ⟨i + 1, by omega, by go_num, hK1.out⟩
        · obtain rfl : i = e.len + 40 := by omega
          go_wp2
          go_roundg (gO - 1)
          case measure => omega
          case rel => exact ⟨k + 1, by omega, by go_num, HI.out.1⟩
    · obtain rfl : k = m := by omega
      go_wp2
      go_ret
      exact ⟨rfl, HC.out⟩
end Go.Proofs.YtggnkpblfmjbcaaGreatDoor.ByteB
namespace Go.Proofs.YtggnkpblfmjbcaaGreatDoor.ByteB
open Go.RowKit Go.Bd
set_option maxRecDepth 100000 in
set_option maxHeartbeats 4000000 in
theorem growByte_any {O : Nat → Option Obj} {B : Nat} {w W : World} {bk : Nat} {cs : Array Value} {A : Option Addr} {c : Nat} {es : List Ent} (hs : TxSt O B w W bk cs A c es) (hf : Fl B W es es.length) :
    Calls Tryz.prog 61 #[.pointer (some ⟨bk, 0, none⟩)] W fun e W' => e = .returned (.tuple #[]) ∧ ∃ es', es'.length = es.length ∧ TxSt O B w W' bk cs A c es' ∧ Gl B W' bk A c es' es'.length := by
  obtain ⟨m, hm⟩ : ∃ m, es.length = m := ⟨_, rfl⟩
  have hgl0 : Gl B W bk A c es 0 := fun j e he => by
    obtain ⟨xs, h1, h2⟩ := hf j e he
    refine ⟨fun h => absurd h (by omega), fun _ => ?_⟩
    rw [← h2 (List.getElem?_eq_some_iff.1 he).1]
    exact h1
  have HS := Lib.hid (And.intro hs (And.intro hgl0 hm))
  have hm1 : m ≤ 1000000 := by rw [← hm]; exact hs.sm.1
  rw [hm]
  clear hs hf hgl0 hm
  go_enter Tryz.func61, Tryz.ntmps61
  go_wp2
  go_loopg [2] m (fun q i wr => ∃ (k : Nat) (es : List Ent), k + q = m ∧ i = .int .i64 (k : Int) ∧ Hid (TxSt O B w wr bk cs A c es ∧ Gl B wr bk A c es k ∧ es.length = m))
  case atStart => exact ⟨0, es, by omega, rfl, HS.out⟩
  case round =>
    clear HS
    obtain ⟨k, es, hk, rfl, HR⟩ := hrel
    obtain ⟨gO, hgO⟩ : ∃ x, x = gk := ⟨_, rfl⟩
    subst hgO
    obtain ⟨wO, hwO⟩ : ∃ x, x = wr := ⟨_, rfl⟩
    subst hwO
    have HM := Lib.hid HR.out.2.2
    have b3 := (HR.out.1.hbk.cell 1).trans HR.out.1.c3
    rw [HM.out] at b3
    by_cases hlt : k < m
    · obtain ⟨e, he⟩ : ∃ x, es[k]? = some x := ⟨_, List.getElem?_eq_getElem (by rw [HM.out]; exact hlt)⟩
      have hrow := HR.out.1.row
      rw [HM.out] at hrow
      rcases hrow.2 with ⟨_, h0⟩ | ⟨tr, tc, cur, hv, _⟩
      · omega
      injection hv with e1 e2 e3
      subst e1
      subst e3
      have r0 := hrow.cells (g := tr) rfl (k * 3 + 0) _ (flat_at he rfl)
      have r1 := hrow.cells (g := tr) rfl (k * 3 + 1) _ (flat_at he rfl)
      have r2 := hrow.cells (g := tr) rfl (k * 3 + 2) _ (flat_at he rfl)
      rw [addr_add] at r0 r1 r2
      rw [Nat.add_zero] at r0
      have ho0 := (HR.out.2.1 k e he).2 (Nat.le_refl _)
      obtain ⟨vA, vc, hev, hvc⟩ := own_slice ho0
      obtain ⟨hen, hel, lA, ll, lc, hlg⟩ := HR.out.1.sm.2 k e he
      rw [hev] at r0
      rw [hlg] at r1
      have HEV := Lib.hid hev
      have hst0 : Hid (In O B w bk cs (some ⟨tr, 0, none⟩) c es k e wO.heap.size #[.slice vA e.len vc, .slice lA ll lc, .int .i64 (e.n : Int)] 0 (.slice vA e.len vc) (wO.alloc (.cells #[.slice vA e.len vc, .slice lA ll lc, .int .i64 (e.n : Int)] 98))) := by
        have hch := (Chg.refl wO (fun _ => False)).alloc (.cells #[.slice vA e.len vc, .slice lA ll lc, .int .i64 (e.n : Int)] 98)
        refine ⟨HR.out.1.chg hch (fun _ h => h.elim) (fun h => h) (fun _ _ h => h), he, ⟨vA, vc, hev, fun h0 => by obtain ⟨g, cap, e1, _⟩ := own_some ho0 h0; rw [hev] at e1; injection e1 with e1; exact ⟨g, e1⟩⟩, fun j f hf => ⟨fun hj => ((HR.out.2.1 j f hf).1 hj).chg hch (fun _ _ h => h) (fun _ _ _ h => h), fun hj => hch.owns ((HR.out.2.1 j f hf).2 (by omega)) (fun _ _ h => h)⟩, fun j f g cap hf hj hl => ?_, ?_, .inl (by rw [hev]), fun j f b hf hb => ?_, fun b hb i hi => ?_, Holds.new wO _ _, by simp, HR.out.1.hbk.lt, fun b o ho => (Array.getElem?_eq_some_iff.1 (HR.out.1.kp b o ho)).1, fun b hb => (HR.out.1.row.lt b hb).2⟩
        · obtain ⟨g2, cap2, e1, e2, _⟩ := ((HR.out.2.1 j f hf).1 hj).new
          rw [hl] at e1
          injection e1 with e1
          have e4 : g = g2 := by simpa using e1
          rw [e4]
          exact World.block_lt_of_cell? _ _ (e2 0 (by omega))
        · have h := hch.owns ho0 (fun _ _ h => h)
          rw [hev] at h
          exact h
        · by_cases hj : j < k
          · exact ((HR.out.2.1 j f hf).1 hj).lt b hb
          · exact ((HR.out.2.1 j f hf).2 (by omega)).lt b hb |>.2
        · have h := hch.owns ho0 (fun _ _ h => h)
          obtain ⟨g, cap, e1, _⟩ := own_some h (by omega)
          rw [e1] at h hb
          have e4 : g = b := by simpa [Value.ownBlock] using hb
          subst e4
          exact own_cell h (by rw [List.getElem?_replicate, if_pos hi])
      clear he hrow ho0 hev HR
      go_wp2
      go_loopg [4, 5] 40 (fun q L vi wi => ∃ (i : Nat) (LA : Option Addr) (lc' : Nat), i + q = 40 ∧ vi = .int .i64 (i : Int) ∧ L = .slice LA (e.len + i) lc' ∧ Hid (In O B w bk cs (some ⟨tr, 0, none⟩) c es k e wO.heap.size #[.slice vA e.len vc, .slice lA ll lc, .int .i64 (e.n : Int)] i (.slice LA (e.len + i) lc') wi))
      case atStart => exact ⟨0, vA, vc, by omega, rfl, rfl, hst0.out⟩
      case round =>
        clear hst0
        obtain ⟨i, LA, lc', hi, rfl, rfl, HI⟩ := hrel
        by_cases hil : i < 40
        · have y2 : wr.cell? ⟨wO.heap.size, 2, none⟩ = some (.int .i64 (e.n : Int)) := HI.out.hh.cell 2
          go_wp2_with fail
          refine (markByte_any e.n (by omega) wr HI.out.tx.tab).mono ?_
          rintro e' w2 ⟨rfl, hb2⟩
          have hch := Chg.below hb2 (fun _ => False)
          have hown := hch.owns HI.out.own (fun _ _ h => h)
          have hBs : B ≤ w2.heap.size := Nat.le_trans (Nat.le_trans HI.out.tx.wB HI.out.tx.hb.size) hch.size
          have HH := Lib.hid (And.intro hch (And.intro hown hBs))
          clear hb2 hch hown hBs
          go_wp2_with (at_builtin; refine wpList_append_stays _ rfl _ _ 55 rfl B 5 (.int .u8 0) 1 Tryz.underlying55 byte_inf2 rfl _ (e.len + i) _ rfl (HH.out.2.1.alloc _) _ 1 (.int .u8 (bmark e.n)) rfl (by simp) rfl (by unfold maxLen; omega) (by omega) (by have := HH.out.2.2; simp; omega) ?_)
          intro g cap w3 ho3 hg3 ha3 hs3
          have HI3 : Hid (In O B w bk cs (some ⟨tr, 0, none⟩) c es k e wO.heap.size #[.slice vA e.len vc, .slice lA ll lc, .int .i64 (e.n : Int)] (i + 1) (.slice (some ⟨g, 0, none⟩) (e.len + i + 1) cap) w3) := by
            have hc3 : Chg wr w3 (fun b => some b = (Value.slice LA (e.len + i) lc').ownBlock) :=
              ((HH.out.1.mono (fun _ _ h => h.elim)).alloc _).trans (Chg.grown hg3) (fun _ _ h => h)
            refine HI.out.step hc3 ho3 (ha3.imp (fun h => h) (fun h => ?_)) hs3
            have := HH.out.1.size
            rw [h]; simp; omega
          clear ho3 hg3 ha3 hs3 HI HH
          go_wp2
          go_roundg (gk - 1)
          case measure => omega
          case rel => exact ⟨i + 1, _, cap, by omega, by go_num, by rfl, HI3.out⟩
        · obtain rfl : i = 40 := by omega
          obtain ⟨g, cap, hL, hT, hG⟩ := HI.out.done' rfl
          have b3' := (HI.out.tx.hbk.cell 1).trans HI.out.tx.c3
          rw [HM.out] at b3'
          injection hL with e1 _ e3
          subst e1
          subst e3
          have rr := HI.out.tx.row.cells (g := tr) rfl (k * 3 + 1) _ (flat_at HI.out.he rfl)
          rw [addr_add] at rr
          have rf : wr.frozen? ⟨tr, k * 3 + 1, none⟩ = false := by
            rcases HI.out.tx.row.2 with ⟨h, _⟩ | ⟨g', cap', cur', hv', _, hh', _⟩
            · cases h
            · injection hv' with e1
              have e4 : tr = g' := by simpa using e1
              subst e4
              exact frozen_of_row _ _ _ _ _ hh'
          have HF := Lib.hid (And.intro hT (And.intro hG (show (es.set k { e with lg := .slice (some ⟨g, 0, none⟩) (e.len + 40) lc' }).length = m by rw [List.length_set]; exact HM.out)))
          clear HI hT hG
          go_wp2
          go_roundg (gO - 1)
          case measure => omega
          case rel => exact ⟨k + 1, _, by omega, by go_num, HF.out⟩
    · obtain rfl : k = m := by omega
      go_wp2
      go_end0
      exact ⟨rfl, es, HM.out, HR.out.1, by rw [HM.out]; exact HR.out.2.1⟩
end Go.Proofs.YtggnkpblfmjbcaaGreatDoor.ByteB
namespace Go.Proofs.YtggnkpblfmjbcaaGreatDoor
open Go.RowKit Go.Bd
def Rel (A : Option Addr) (c : Nat) (es : List Ent) (b : Nat) : Prop := (Value.slice A es.length c).ownBlock = some b ∨ ∃ (i : Nat) (e : Ent), es[i]? = some e ∧ (e.v.ownBlock = some b ∨ e.lg.ownBlock = some b)
theorem owns_eq {W W' : World} {base sz n : Nat} {e : TypeId} {v : Value} {xs : List Value} (ho : W.ownsRow base e sz v n xs) (h : ∀ k, v.ownBlock = some k → W'.heap[k]? = W.heap[k]?) : W'.ownsRow base e sz v n xs := by
  refine ⟨ho.1, ?_⟩
  rcases ho.2 with hn | ⟨g, cap, cur, hv, hg, hh, r⟩
  · exact .inl hn
  · exact .inr ⟨g, cap, cur, hv, hg, (h g (by rw [hv]; rfl)).trans hh, r⟩
open Classical in
noncomputable def snap (W : World) (R : Nat → Prop) : Nat → Option Obj := fun b => if R b then W.heap[b]? else none
theorem snap_some {W : World} {R : Nat → Prop} {b : Nat} {o : Obj} (h : snap W R b = some o) : R b ∧ W.heap[b]? = some o := by
  unfold snap at h
  split at h
  · exact ⟨‹_›, h⟩
  · cases h
theorem snap_none {W : World} {R : Nat → Prop} {b : Nat} (h : ¬ R b) : snap W R b = none := by
  unfold snap
  rw [if_neg h]
theorem snap_at {W : World} {R : Nat → Prop} {b : Nat} (h : R b) : snap W R b = W.heap[b]? := by
  unfold snap
  rw [if_pos h]
theorem lt_eq {W W' : World} {b : Nat} (h : b < W.heap.size) (he : W'.heap[b]? = W.heap[b]?) : b < W'.heap.size := by
  rw [Array.getElem?_eq_getElem h] at he
  exact (Array.getElem?_eq_some_iff.1 he).1
section
variable {O O' : Nat → Option Obj} {B : Nat} {w W W' : World} {bk : Nat} {cs : Array Value} {A : Option Addr} {c k : Nat} {es : List Ent}
theorem TxSt.reO (h : TxSt O B w W bk cs A c es) (kp : ∀ (b : Nat) o, O' b = some o → W.heap[b]? = some o) (kd : ∀ (b : Nat) o, O' b = some o → b ≠ bk ∧ (Value.slice A es.length c).ownBlock ≠ some b ∧ ∀ (i : Nat) e, es[i]? = some e → e.v.ownBlock ≠ some b)
    (kl : ∀ (i : Nat) e b, es[i]? = some e → e.lg.ownBlock = some b → O' b = none) : TxSt O' B w W bk cs A c es :=
  ⟨h.hb, h.wB, h.tab, h.tabB, h.bkB, h.hbk, h.c3, h.row, h.bkr, h.ap, h.un, kp, kd, kl, h.sm⟩
theorem TxSt.none (h : TxSt O B w W bk cs A c es) : TxSt (fun _ => .none) B w W bk cs A c es := h.reO (fun _ _ h => by cases h) (fun _ _ h => by cases h) (fun _ _ _ _ _ => rfl)
theorem TxSt.snapped (h : TxSt O B w W bk cs A c es) {R : Nat → Prop} (hd : ∀ b, R b → b ≠ bk ∧ ¬ Rel A c es b) : TxSt (snap W R) B w W bk cs A c es :=
  h.reO (fun b o ho => (snap_some ho).2) (fun b o ho => ⟨(hd b (snap_some ho).1).1, fun e => (hd b (snap_some ho).1).2 (.inl e), fun i e he hv => (hd b (snap_some ho).1).2 (.inr ⟨i, e, he, .inl hv⟩)⟩)
    (fun i e b he hl => snap_none fun hr => (hd b hr).2 (.inr ⟨i, e, he, .inr hl⟩))
theorem TxSt.move (h : TxSt O B w W bk cs A c es) (hb : Below B w W') (ht : Tab W') (hbk : Holds W' bk 54 cs) (he : ∀ b, Rel A c es b → W'.heap[b]? = W.heap[b]?) : TxSt (fun _ => .none) B w W' bk cs A c es :=
  ⟨hb, h.wB, ht, h.tabB, h.bkB, hbk, h.c3, owns_eq h.row (fun k hk => he k (.inl hk)), h.bkr, h.ap, h.un, (fun _ _ h => by cases h), (fun _ _ h => by cases h), (fun _ _ _ _ _ => rfl), h.sm⟩
theorem Fl.move (h : Fl B W es k) (he : ∀ b, Rel A c es b → W'.heap[b]? = W.heap[b]?) : Fl B W' es k := fun j e hj => by
  obtain ⟨xs, h1, h2⟩ := h j e hj
  exact ⟨xs, owns_eq h1 (fun b hb => he b (.inr ⟨j, e, hj, .inl hb⟩)), h2⟩
theorem Gl.move (h : Gl B W bk A c es es.length) (he : ∀ b, Rel A c es b → W'.heap[b]? = W.heap[b]?) : Gl B W' bk A c es es.length := fun j e hj => by
  obtain ⟨h1, h2⟩ := h j e hj
  have hlt : j < es.length := (List.getElem?_eq_some_iff.1 hj).1
  refine ⟨fun hk => ?_, fun hk => absurd hk (by omega)⟩
  have g := h1 hlt
  refine ⟨fun b hb i hi => (World.cell?_of_block (he b (.inr ⟨j, e, hj, .inl hb⟩))).trans (g.old b hb i hi), fun b hb => lt_eq (g.lt b hb) (he b (.inr ⟨j, e, hj, .inl hb⟩)), g.sl, ?_⟩
  obtain ⟨gg, cap, e1, e2, e3⟩ := g.new
  exact ⟨gg, cap, e1, fun i hi => (World.cell?_of_block (he gg (.inr ⟨j, e, hj, .inr (by rw [e1]; rfl)⟩))).trans (e2 i hi), e3⟩
theorem rel_fl (h : TxSt O B w W bk cs A c es) (hf : Fl B W es k) (hn : ∀ (i : Nat) e, es[i]? = some e → e.lg.ownBlock = .none) (b : Nat) (hr : Rel A c es b) : b < W.heap.size ∧ b ≠ bk := by
  rcases hr with hr | ⟨i, e, he, hr | hr⟩
  · exact ⟨(h.row.lt b hr).2, fun e => h.bkr (by rw [hr, e])⟩
  · obtain ⟨xs, h1, _⟩ := hf i e he
    exact ⟨(h1.lt b hr).2, fun e' => (h.ap i e he).1 (by rw [hr, e'])⟩
  · rw [hn i e he] at hr; cases hr
theorem rel_gl (h : TxSt O B w W bk cs A c es) (hf : Gl B W bk A c es es.length) (b : Nat) (hr : Rel A c es b) : b < W.heap.size ∧ b ≠ bk := by
  rcases hr with hr | ⟨i, e, he, hr⟩
  · exact ⟨(h.row.lt b hr).2, fun e => h.bkr (by rw [hr, e])⟩
  · have g := (hf i e he).1 (List.getElem?_eq_some_iff.1 he).1
    rcases hr with hr | hr
    · exact ⟨g.lt b hr, fun e' => (h.ap i e he).1 (by rw [hr, e'])⟩
    · obtain ⟨gg, cap, e1, e2, e3, _⟩ := g.new
      rw [e1] at hr
      have e4 : gg = b := by simpa [Value.ownBlock] using hr
      subst e4
      exact ⟨World.block_lt_of_cell? _ _ (e2 0 (by omega)), e3⟩
end
section
variable {O O' : Nat → Option Obj} {B : Nat} {w W W' : World} {bk : Nat} {cs : Array Value} {A : Option Addr} {c k : Nat} {es : List Ent}
theorem ByteB.TxSt.reO (h : ByteB.TxSt O B w W bk cs A c es) (kp : ∀ (b : Nat) o, O' b = some o → W.heap[b]? = some o) (kd : ∀ (b : Nat) o, O' b = some o → b ≠ bk ∧ (Value.slice A es.length c).ownBlock ≠ some b ∧ ∀ (i : Nat) e, es[i]? = some e → e.v.ownBlock ≠ some b)
    (kl : ∀ (i : Nat) e b, es[i]? = some e → e.lg.ownBlock = some b → O' b = none) : ByteB.TxSt O' B w W bk cs A c es :=
  ⟨h.hb, h.wB, h.tab, h.tabB, h.bkB, h.hbk, h.c3, h.row, h.bkr, h.ap, h.un, kp, kd, kl, h.sm⟩
theorem ByteB.TxSt.none (h : ByteB.TxSt O B w W bk cs A c es) : ByteB.TxSt (fun _ => .none) B w W bk cs A c es := h.reO (fun _ _ h => by cases h) (fun _ _ h => by cases h) (fun _ _ _ _ _ => rfl)
theorem ByteB.TxSt.snapped (h : ByteB.TxSt O B w W bk cs A c es) {R : Nat → Prop} (hd : ∀ b, R b → b ≠ bk ∧ ¬ Rel A c es b) : ByteB.TxSt (snap W R) B w W bk cs A c es :=
  h.reO (fun b o ho => (snap_some ho).2) (fun b o ho => ⟨(hd b (snap_some ho).1).1, fun e => (hd b (snap_some ho).1).2 (.inl e), fun i e he hv => (hd b (snap_some ho).1).2 (.inr ⟨i, e, he, .inl hv⟩)⟩)
    (fun i e b he hl => snap_none fun hr => (hd b hr).2 (.inr ⟨i, e, he, .inr hl⟩))
theorem ByteB.TxSt.move (h : ByteB.TxSt O B w W bk cs A c es) (hb : Below B w W') (ht : Tab W') (hbk : Holds W' bk 54 cs) (he : ∀ b, Rel A c es b → W'.heap[b]? = W.heap[b]?) : ByteB.TxSt (fun _ => .none) B w W' bk cs A c es :=
  ⟨hb, h.wB, ht, h.tabB, h.bkB, hbk, h.c3, owns_eq h.row (fun k hk => he k (.inl hk)), h.bkr, h.ap, h.un, (fun _ _ h => by cases h), (fun _ _ h => by cases h), (fun _ _ _ _ _ => rfl), h.sm⟩
theorem ByteB.Fl.move (h : ByteB.Fl B W es k) (he : ∀ b, Rel A c es b → W'.heap[b]? = W.heap[b]?) : ByteB.Fl B W' es k := fun j e hj => by
  obtain ⟨xs, h1, h2⟩ := h j e hj
  exact ⟨xs, owns_eq h1 (fun b hb => he b (.inr ⟨j, e, hj, .inl hb⟩)), h2⟩
theorem ByteB.Gl.move (h : ByteB.Gl B W bk A c es es.length) (he : ∀ b, Rel A c es b → W'.heap[b]? = W.heap[b]?) : ByteB.Gl B W' bk A c es es.length := fun j e hj => by
  obtain ⟨h1, h2⟩ := h j e hj
  have hlt : j < es.length := (List.getElem?_eq_some_iff.1 hj).1
  refine ⟨fun hk => ?_, fun hk => absurd hk (by omega)⟩
  have g := h1 hlt
  refine ⟨fun b hb i hi => (World.cell?_of_block (he b (.inr ⟨j, e, hj, .inl hb⟩))).trans (g.old b hb i hi), fun b hb => lt_eq (g.lt b hb) (he b (.inr ⟨j, e, hj, .inl hb⟩)), g.sl, ?_⟩
  obtain ⟨gg, cap, e1, e2, e3⟩ := g.new
  exact ⟨gg, cap, e1, fun i hi => (World.cell?_of_block (he gg (.inr ⟨j, e, hj, .inr (by rw [e1]; rfl)⟩))).trans (e2 i hi), e3⟩
theorem ByteB.rel_fl (h : ByteB.TxSt O B w W bk cs A c es) (hf : ByteB.Fl B W es k) (hn : ∀ (i : Nat) e, es[i]? = some e → e.lg.ownBlock = .none) (b : Nat) (hr : Rel A c es b) : b < W.heap.size ∧ b ≠ bk := by
  rcases hr with hr | ⟨i, e, he, hr | hr⟩
  · exact ⟨(h.row.lt b hr).2, fun e => h.bkr (by rw [hr, e])⟩
  · obtain ⟨xs, h1, _⟩ := hf i e he
    exact ⟨(h1.lt b hr).2, fun e' => (h.ap i e he).1 (by rw [hr, e'])⟩
  · rw [hn i e he] at hr; cases hr
theorem ByteB.rel_gl (h : ByteB.TxSt O B w W bk cs A c es) (hf : ByteB.Gl B W bk A c es es.length) (b : Nat) (hr : Rel A c es b) : b < W.heap.size ∧ b ≠ bk := by
  rcases hr with hr | ⟨i, e, he, hr⟩
  · exact ⟨(h.row.lt b hr).2, fun e => h.bkr (by rw [hr, e])⟩
  · have g := (hf i e he).1 (List.getElem?_eq_some_iff.1 he).1
    rcases hr with hr | hr
    · exact ⟨g.lt b hr, fun e' => (h.ap i e he).1 (by rw [hr, e'])⟩
    · obtain ⟨gg, cap, e1, e2, e3, _⟩ := g.new
      rw [e1] at hr
      have e4 : gg = b := by simpa [Value.ownBlock] using hr
      subst e4
      exact ⟨World.block_lt_of_cell? _ _ (e2 0 (by omega)), e3⟩
end
structure S2 (B : Nat) (w W : World) (bk : Nat) (cs : Array Value) (A : Option Addr) (c : Nat) (es : List Ent) (A2 : Option Addr) (c2 : Nat) (js : List Ent) : Prop where
  T : TxSt (fun _ => none) B w W bk cs A c es
  I : ByteB.TxSt (fun _ => none) B w W bk cs A2 c2 js
  ap : ∀ b, Rel A c es b → ¬ Rel A2 c2 js b
section
variable {B : Nat} {w W W' : World} {bk : Nat} {cs : Array Value} {A A2 : Option Addr} {c c2 : Nat} {es js : List Ent}
theorem fillText2 (h : S2 B w W bk cs A c es A2 c2 js) (hf : Fl B W es 0) (hy : ∀ b, Rel A2 c2 js b → b < W.heap.size ∧ b ≠ bk) :
    Calls Tryz.prog 46 #[.pointer (some ⟨bk, 0, none⟩)] W fun e W' => e = .returned (.tuple #[]) ∧ S2 B w W' bk cs A c es A2 c2 js ∧ Fl B W' es es.length ∧ ∀ b, Rel A2 c2 js b → W'.heap[b]? = W.heap[b]? := by
  refine (fillText_any (h.T.snapped (R := Rel A2 c2 js) (fun b hb => ⟨(hy b hb).2, (fun b h1 h2 => h.ap b h2 h1) b hb⟩)) hf).mono ?_
  rintro e W' ⟨he, h1, h2⟩
  have hk : ∀ b, Rel A2 c2 js b → W'.heap[b]? = W.heap[b]? := fun b hb => by
    have h3 := Array.getElem?_eq_getElem (hy b hb).1
    rw [h3]
    exact h1.kp b _ ((snap_at hb).trans h3)
  exact ⟨he, ⟨h1.none, h.I.move h1.hb h1.tab h1.hbk hk, h.ap⟩, h2, hk⟩
theorem growText2 (h : S2 B w W bk cs A c es A2 c2 js) (hf : Fl B W es es.length) (hy : ∀ b, Rel A2 c2 js b → b < W.heap.size ∧ b ≠ bk) :
    Calls Tryz.prog 63 #[.pointer (some ⟨bk, 0, none⟩)] W fun e W' => e = .returned (.tuple #[]) ∧ ∃ es', S2 B w W' bk cs A c es' A2 c2 js ∧ Gl B W' bk A c es' es'.length ∧ ∀ b, Rel A2 c2 js b → W'.heap[b]? = W.heap[b]? := by
  refine (growText_any (h.T.snapped (R := Rel A2 c2 js) (fun b hb => ⟨(hy b hb).2, (fun b h1 h2 => h.ap b h2 h1) b hb⟩)) hf).mono ?_
  rintro e W' ⟨he, es', hl, h1, h2⟩
  have hs : ∀ b, Rel A2 c2 js b → ∃ o, snap W (Rel A2 c2 js) b = some o := fun b hb => ⟨_, (snap_at hb).trans (Array.getElem?_eq_getElem (hy b hb).1)⟩
  have hk : ∀ b, Rel A2 c2 js b → W'.heap[b]? = W.heap[b]? := fun b hb => by
    have h3 := Array.getElem?_eq_getElem (hy b hb).1
    rw [h3]
    exact h1.kp b _ ((snap_at hb).trans h3)
  have hd : ∀ b, Rel A2 c2 js b → ¬ Rel A c es' b := fun b hb hr => by
    obtain ⟨o, ho⟩ := hs b hb
    have hkd := h1.kd b o ho
    rcases hr with hr | ⟨i, e, he, hr | hr⟩
    · exact hkd.2.1 hr
    · exact hkd.2.2 i e he hr
    · rw [h1.kl i e b he hr] at ho; cases ho
  exact ⟨he, es', ⟨h1.none, h.I.move h1.hb h1.tab h1.hbk hk, fun b h1 h2 => hd b h2 h1⟩, h2, hk⟩
theorem fillByte2 (h : S2 B w W bk cs A c es A2 c2 js) (hf : ByteB.Fl B W js 0) (hy : ∀ b, Rel A c es b → b < W.heap.size ∧ b ≠ bk) :
    Calls Tryz.prog 44 #[.pointer (some ⟨bk, 0, none⟩)] W fun e W' => e = .returned (.tuple #[]) ∧ S2 B w W' bk cs A c es A2 c2 js ∧ ByteB.Fl B W' js js.length ∧ ∀ b, Rel A c es b → W'.heap[b]? = W.heap[b]? := by
  refine (ByteB.fillByte_any (h.I.snapped (R := Rel A c es) (fun b hb => ⟨(hy b hb).2, (fun b h1 h2 => h.ap b h1 h2) b hb⟩)) hf).mono ?_
  rintro e W' ⟨he, h1, h2⟩
  have hk : ∀ b, Rel A c es b → W'.heap[b]? = W.heap[b]? := fun b hb => by
    have h3 := Array.getElem?_eq_getElem (hy b hb).1
    rw [h3]
    exact h1.kp b _ ((snap_at hb).trans h3)
  exact ⟨he, ⟨h.T.move h1.hb h1.tab h1.hbk hk, h1.none, h.ap⟩, h2, hk⟩
theorem growByte2 (h : S2 B w W bk cs A c es A2 c2 js) (hf : ByteB.Fl B W js js.length) (hy : ∀ b, Rel A c es b → b < W.heap.size ∧ b ≠ bk) :
    Calls Tryz.prog 61 #[.pointer (some ⟨bk, 0, none⟩)] W fun e W' => e = .returned (.tuple #[]) ∧ ∃ es', S2 B w W' bk cs A c es A2 c2 es' ∧ ByteB.Gl B W' bk A2 c2 es' es'.length ∧ ∀ b, Rel A c es b → W'.heap[b]? = W.heap[b]? := by
  refine (ByteB.growByte_any (h.I.snapped (R := Rel A c es) (fun b hb => ⟨(hy b hb).2, (fun b h1 h2 => h.ap b h1 h2) b hb⟩)) hf).mono ?_
  rintro e W' ⟨he, es', hl, h1, h2⟩
  have hs : ∀ b, Rel A c es b → ∃ o, snap W (Rel A c es) b = some o := fun b hb => ⟨_, (snap_at hb).trans (Array.getElem?_eq_getElem (hy b hb).1)⟩
  have hk : ∀ b, Rel A c es b → W'.heap[b]? = W.heap[b]? := fun b hb => by
    have h3 := Array.getElem?_eq_getElem (hy b hb).1
    rw [h3]
    exact h1.kp b _ ((snap_at hb).trans h3)
  have hd : ∀ b, Rel A c es b → ¬ Rel A2 c2 es' b := fun b hb hr => by
    obtain ⟨o, ho⟩ := hs b hb
    have hkd := h1.kd b o ho
    rcases hr with hr | ⟨i, e, he, hr | hr⟩
    · exact hkd.2.1 hr
    · exact hkd.2.2 i e he hr
    · rw [h1.kl i e b he hr] at ho; cases ho
  exact ⟨he, es', ⟨h.T.move h1.hb h1.tab h1.hbk hk, h1.none, hd⟩, h2, hk⟩
end
end Go.Proofs.YtggnkpblfmjbcaaGreatDoor
namespace Go.Proofs.YtggnkpblfmjbcaaGreatDoor
open Go.RowKit Go.Bd
def NoneOf (cs : Array Value) : Prop := ∀ i, i = 2 ∨ (4 ≤ i ∧ i ≤ 17) → cs[i]? = some (.slice none 0 0)
theorem NoneOf.cell {cs : Array Value} {W : World} {bk : Nat} {t : TypeId} (h : NoneOf cs) (hh : Holds W bk t cs) {i : Nat} (hi : i = 2 ∨ (4 ≤ i ∧ i ≤ 17)) : W.cell? ⟨bk, i, none⟩ = some (.slice none 0 0) := (hh.cell i).trans (h i hi)
set_option maxRecDepth 100000 in
set_option maxHeartbeats 4000000 in
theorem apart_any {B : Nat} {w W : World} {bk : Nat} {cs : Array Value} {A A2 : Option Addr} {c c2 : Nat} {es js : List Ent} (h : S2 B w W bk cs A c es A2 c2 js) (hT : Fl B W es 0) (hI : ByteB.Fl B W js 0) (hz : NoneOf cs)
    (nT : ∀ (i : Nat) e, es[i]? = some e → e.lg.ownBlock = none) (nI : ∀ (i : Nat) e, js[i]? = some e → e.lg.ownBlock = none) :
    Calls Tryz.prog 28 #[.pointer (some ⟨bk, 0, none⟩)] W fun e W' => e = .returned (.bool true) ∧ Below B w W' := by
  have HH := Lib.hid h.T.hbk
  have HZ := Lib.hid hz
  have HS := Lib.hid (And.intro h (And.intro hT (And.intro hI (And.intro nT nI))))
  clear h hT hI hz nT nI
  go_enter Tryz.func28, Tryz.ntmps28
  go_wp2_with fail
  refine (fillByte2 HS.out.1 HS.out.2.2.1 (rel_fl HS.out.1.T HS.out.2.1 HS.out.2.2.2.1)).mono ?_
  rintro e W1 ⟨rfl, h1, h2, h3⟩
  have HS1 := Lib.hid (And.intro h1 (And.intro (HS.out.2.1.move (A := A) (c := c) h3) (And.intro h2 HS.out.2.2.2)))
  replace HH := Lib.hid h1.T.hbk
  clear HS h1 h2 h3
  go_wp2_with fail
  refine (fillInt_none bk _ (HZ.out.cell HH.out (by omega))).mono ?_
  rintro e w' ⟨rfl, rfl⟩
  go_wp2_with fail
  refine (fillText2 HS1.out.1 HS1.out.2.1 (ByteB.rel_fl HS1.out.1.I HS1.out.2.2.1 HS1.out.2.2.2.2)).mono ?_
  rintro e W2 ⟨rfl, h1, h2, h3⟩
  have HS2 := Lib.hid (And.intro h1 (And.intro h2 (And.intro (HS1.out.2.2.1.move (A := A2) (c := c2) h3) HS1.out.2.2.2)))
  replace HH := Lib.hid h1.T.hbk
  clear HS1 h1 h2 h3
  go_wp2_with fail
  refine (fillFault_none bk _ (HZ.out.cell HH.out (by omega))).mono ?_
  rintro e w' ⟨rfl, rfl⟩
  go_wp2_with fail
  refine (fillLine_none bk _ (HZ.out.cell HH.out (by omega))).mono ?_
  rintro e w' ⟨rfl, rfl⟩
  go_wp2_with fail
  refine (fillSource_none bk _ (HZ.out.cell HH.out (by omega))).mono ?_
  rintro e w' ⟨rfl, rfl⟩
  go_wp2_with fail
  refine (fillAttr_none bk _ (HZ.out.cell HH.out (by omega))).mono ?_
  rintro e w' ⟨rfl, rfl⟩
  go_wp2_with fail
  refine (fillDiag_none bk _ (HZ.out.cell HH.out (by omega))).mono ?_
  rintro e w' ⟨rfl, rfl⟩
  go_wp2_with fail
  refine (fillSpan_none bk _ (HZ.out.cell HH.out (by omega))).mono ?_
  rintro e w' ⟨rfl, rfl⟩
  go_wp2_with fail
  refine (fillCell_none bk _ (HZ.out.cell HH.out (by omega))).mono ?_
  rintro e w' ⟨rfl, rfl⟩
  go_wp2_with fail
  refine (fillRow_none bk _ (HZ.out.cell HH.out (by omega))).mono ?_
  rintro e w' ⟨rfl, rfl⟩
  go_wp2_with fail
  refine (fillBlock_none bk _ (HZ.out.cell HH.out (by omega))).mono ?_
  rintro e w' ⟨rfl, rfl⟩
  go_wp2_with fail
  refine (fillChapter_none bk _ (HZ.out.cell HH.out (by omega))).mono ?_
  rintro e w' ⟨rfl, rfl⟩
  go_wp2_with fail
  refine (fillPlace_none bk _ (HZ.out.cell HH.out (by omega))).mono ?_
  rintro e w' ⟨rfl, rfl⟩
  go_wp2_with fail
  refine (fillLocator_none bk _ (HZ.out.cell HH.out (by omega))).mono ?_
  rintro e w' ⟨rfl, rfl⟩
  go_wp2_with fail
  refine (fillEntry_none bk _ (HZ.out.cell HH.out (by omega))).mono ?_
  rintro e w' ⟨rfl, rfl⟩
  go_wp2_with fail
  refine (fillFile_none bk _ (HZ.out.cell HH.out (by omega))).mono ?_
  rintro e w' ⟨rfl, rfl⟩
  go_wp2_with fail
  refine (growByte2 HS2.out.1 HS2.out.2.2.1 (rel_fl HS2.out.1.T HS2.out.2.1 HS2.out.2.2.2.1)).mono ?_
  rintro e W3 ⟨rfl, js', h1, h2, h3⟩
  have HS3 := Lib.hid (And.intro h1 (And.intro (HS2.out.2.1.move (A := A) (c := c) h3) h2))
  replace HH := Lib.hid h1.T.hbk
  clear HS2 h1 h2 h3
  go_wp2_with fail
  refine (growInt_none bk _ (HZ.out.cell HH.out (by omega))).mono ?_
  rintro e w' ⟨rfl, rfl⟩
  go_wp2_with fail
  refine (growText2 HS3.out.1 HS3.out.2.1 (ByteB.rel_gl HS3.out.1.I HS3.out.2.2)).mono ?_
  rintro e W4 ⟨rfl, es', h1, h2, h3⟩
  have HS4 := Lib.hid (And.intro h1 (And.intro h2 (HS3.out.2.2.move h3)))
  replace HH := Lib.hid h1.T.hbk
  clear HS3 h1 h2 h3
  go_wp2_with fail
  refine (growFault_none bk _ (HZ.out.cell HH.out (by omega))).mono ?_
  rintro e w' ⟨rfl, rfl⟩
  go_wp2_with fail
  refine (growLine_none bk _ (HZ.out.cell HH.out (by omega))).mono ?_
  rintro e w' ⟨rfl, rfl⟩
  go_wp2_with fail
  refine (growSource_none bk _ (HZ.out.cell HH.out (by omega))).mono ?_
  rintro e w' ⟨rfl, rfl⟩
  go_wp2_with fail
  refine (growAttr_none bk _ (HZ.out.cell HH.out (by omega))).mono ?_
  rintro e w' ⟨rfl, rfl⟩
  go_wp2_with fail
  refine (growDiag_none bk _ (HZ.out.cell HH.out (by omega))).mono ?_
  rintro e w' ⟨rfl, rfl⟩
  go_wp2_with fail
  refine (growSpan_none bk _ (HZ.out.cell HH.out (by omega))).mono ?_
  rintro e w' ⟨rfl, rfl⟩
  go_wp2_with fail
  refine (growCell_none bk _ (HZ.out.cell HH.out (by omega))).mono ?_
  rintro e w' ⟨rfl, rfl⟩
  go_wp2_with fail
  refine (growRow_none bk _ (HZ.out.cell HH.out (by omega))).mono ?_
  rintro e w' ⟨rfl, rfl⟩
  go_wp2_with fail
  refine (growBlock_none bk _ (HZ.out.cell HH.out (by omega))).mono ?_
  rintro e w' ⟨rfl, rfl⟩
  go_wp2_with fail
  refine (growChapter_none bk _ (HZ.out.cell HH.out (by omega))).mono ?_
  rintro e w' ⟨rfl, rfl⟩
  go_wp2_with fail
  refine (growPlace_none bk _ (HZ.out.cell HH.out (by omega))).mono ?_
  rintro e w' ⟨rfl, rfl⟩
  go_wp2_with fail
  refine (growLocator_none bk _ (HZ.out.cell HH.out (by omega))).mono ?_
  rintro e w' ⟨rfl, rfl⟩
  go_wp2_with fail
  refine (growEntry_none bk _ (HZ.out.cell HH.out (by omega))).mono ?_
  rintro e w' ⟨rfl, rfl⟩
  go_wp2_with fail
  refine (growFile_none bk _ (HZ.out.cell HH.out (by omega))).mono ?_
  rintro e w' ⟨rfl, rfl⟩
  go_wp2_with fail
  refine (ByteB.lookByte_any HS4.out.1.I HS4.out.2.2).mono ?_
  rintro e W5 ⟨rfl, hc⟩
  have hT5 := HS4.out.1.T.chg hc (fun _ h => h.elim) (fun h => h) (fun _ _ h => h)
  have hG5 : Gl B W5 bk A c es' es'.length := fun j e hj => ⟨fun hk => ((HS4.out.2.1 j e hj).1 hk).chg hc (fun _ _ h => h) (fun _ _ _ h => h), fun hk => hc.owns ((HS4.out.2.1 j e hj).2 hk) (fun _ _ h => h)⟩
  have HS5 := Lib.hid (And.intro hT5 hG5)
  replace HH := Lib.hid hT5.hbk
  clear HS4 hT5 hG5 hc
  go_wp2_with fail
  refine (lookInt_none bk _ (HZ.out.cell HH.out (by omega))).mono ?_
  rintro e w' ⟨rfl, rfl⟩
  go_wp2_with fail
  refine (lookText_any HS5.out.1 HS5.out.2).mono ?_
  rintro e W6 ⟨rfl, hc⟩
  have hT6 := HS5.out.1.chg hc (fun _ h => h.elim) (fun h => h) (fun _ _ h => h)
  have HB := Lib.hid hT6.hb
  replace HH := Lib.hid hT6.hbk
  clear HS5 hT6 hc
  go_wp2_with fail
  refine (lookFault_none bk _ (HZ.out.cell HH.out (by omega))).mono ?_
  rintro e w' ⟨rfl, rfl⟩
  go_wp2_with fail
  refine (lookLine_none bk _ (HZ.out.cell HH.out (by omega))).mono ?_
  rintro e w' ⟨rfl, rfl⟩
  go_wp2_with fail
  refine (lookSource_none bk _ (HZ.out.cell HH.out (by omega))).mono ?_
  rintro e w' ⟨rfl, rfl⟩
  go_wp2_with fail
  refine (lookAttr_none bk _ (HZ.out.cell HH.out (by omega))).mono ?_
  rintro e w' ⟨rfl, rfl⟩
  go_wp2_with fail
  refine (lookDiag_none bk _ (HZ.out.cell HH.out (by omega))).mono ?_
  rintro e w' ⟨rfl, rfl⟩
  go_wp2_with fail
  refine (lookSpan_none bk _ (HZ.out.cell HH.out (by omega))).mono ?_
  rintro e w' ⟨rfl, rfl⟩
  go_wp2_with fail
  refine (lookCell_none bk _ (HZ.out.cell HH.out (by omega))).mono ?_
  rintro e w' ⟨rfl, rfl⟩
  go_wp2_with fail
  refine (lookRow_none bk _ (HZ.out.cell HH.out (by omega))).mono ?_
  rintro e w' ⟨rfl, rfl⟩
  go_wp2_with fail
  refine (lookBlock_none bk _ (HZ.out.cell HH.out (by omega))).mono ?_
  rintro e w' ⟨rfl, rfl⟩
  go_wp2_with fail
  refine (lookChapter_none bk _ (HZ.out.cell HH.out (by omega))).mono ?_
  rintro e w' ⟨rfl, rfl⟩
  go_wp2_with fail
  refine (lookPlace_none bk _ (HZ.out.cell HH.out (by omega))).mono ?_
  rintro e w' ⟨rfl, rfl⟩
  go_wp2_with fail
  refine (lookLocator_none bk _ (HZ.out.cell HH.out (by omega))).mono ?_
  rintro e w' ⟨rfl, rfl⟩
  go_wp2_with fail
  refine (lookEntry_none bk _ (HZ.out.cell HH.out (by omega))).mono ?_
  rintro e w' ⟨rfl, rfl⟩
  go_wp2_with fail
  refine (lookFile_none bk _ (HZ.out.cell HH.out (by omega))).mono ?_
  rintro e w' ⟨rfl, rfl⟩
  go_wp2
  go_ret
  exact ⟨rfl, HB.out⟩
end Go.Proofs.YtggnkpblfmjbcaaGreatDoor
