/-
  Walks: a Book's marks as texts.
-/
import Derived.Test.YtkfffoolpdilnaaGreatDoorBk
import Derived.Test.YtkfffoolpdilnaaGreatDoorShelf
import Derived.Lib.ItoaLen
import Derived.Lib.LaidTab
namespace Go.Proofs.YtkfffoolpdilnaaGreatDoor
open Go.RowKit Go.Bd
/-- the library's table of powers stands -/
def Tab (w : World) : Prop := Lib.TabIs Tryz.prog w "internal/strconv.uint64pow10" .u64 Lib.pow10Tab
theorem tab_global : Tryz.prog.globalNamed "internal/strconv.uint64pow10" = some 3 := by kernel_rfl
theorem Tab.lt {w : World} (h : Tab w) : 3 < w.heap.size := by
  unfold Tab Lib.TabIs World.var? at h
  rw [tab_global] at h
  simp only [Option.bind_some] at h
  split at h
  · rename_i cs t fr hh
    exact (Array.getElem?_eq_some_iff.1 hh).1
  · cases h
theorem Tab.keep {w w' : World} (h : Tab w) (hk : w'.heap[3]? = w.heap[3]?) : Tab w' := by
  unfold Tab Lib.TabIs World.var? at h ⊢
  rw [tab_global] at h ⊢
  simp only [Option.bind_some] at h ⊢
  rw [hk]; exact h
theorem Tab.below {w w' : World} {B : Nat} (h : Tab w) (hb : Below B w w') (hg : 3 < B) : Tab w' := h.keep (hb.block _ hg)
theorem below_grew (w : World) (q : Nat) (os : Array Obj) : Below w.heap.size w (Sort.grow (w.drewN q) os) := by
  refine ⟨rfl, rfl, rfl, ?_, fun k hk => ?_⟩
  · show w.heap.size ≤ (w.heap ++ os).size
    simp
  · show (w.heap ++ os)[k]? = w.heap[k]?
    rw [Array.getElem?_append_left hk]
/-- a mark as a text -/
def wordB (n : Nat) : ByteArray := (⟨#[35]⟩ : ByteArray) ++ ⟨(Lib.itoa (n : Int)).toArray⟩
set_option maxRecDepth 100000 in
theorem word_any (n : Nat) (hn : n ≤ 1000000000) (w : World) (ht : Tab w) :
    Calls Tryz.prog 143 #[.int .i64 (n : Int)] w fun e w' => e = .returned (.string (wordB n)) ∧ Below w.heap.size w w' := by
  have hl := Lib.itoa_length_le (n : Int) (by omega) (by omega)
  have c := Tryz.strconv_Itoa (n : Int) (by omega) (by omega) w ht
  have hz : (⟨(Lib.itoa (n : Int)).toArray⟩ : ByteArray).size ≤ 21 := by rw [size_mk]; exact hl
  have HW : Hid (wordB n = (⟨#[35]⟩ : ByteArray) ++ ⟨(Lib.itoa (n : Int)).toArray⟩) := rfl
  generalize (⟨(Lib.itoa (n : Int)).toArray⟩ : ByteArray) = s at c hz HW
  clear hl ht
  go_enter Tryz.func143, Tryz.ntmps143
  go_wp2_with fail
  refine c.mono ?_
  clear c
  rintro e w1 ⟨rfl, k, os, rfl⟩
  have HB := Lib.hid (below_grew w k os)
  go_wp2
  go_ret
  exact ⟨by rw [HW.out]; rfl, HB.out⟩
theorem markText_any (n : Nat) (hn : n ≤ 1000000000) (w : World) (ht : Tab w) :
    Calls Tryz.prog 96 #[.int .i64 (n : Int)] w fun e w' => e = .returned (.string (wordB n)) ∧ Below w.heap.size w w' := by
  have c := word_any n hn w ht
  clear ht
  generalize wordB n = s at c ⊢
  go_enter Tryz.func96, Tryz.ntmps96
  go_wp2_with fail
  refine c.mono ?_
  clear c
  rintro e w1 ⟨rfl, hb⟩
  have HB := Lib.hid hb
  clear hb
  go_wp2
  go_ret
  exact ⟨rfl, HB.out⟩
theorem isText_any (n : Nat) (hn : n ≤ 1000000000) (w : World) (ht : Tab w) :
    Calls Tryz.prog 113 #[.string (wordB n), .int .i64 (n : Int)] w fun e w' => e = .returned (.bool true) ∧ Below w.heap.size w w' := by
  have c := word_any n hn w ht
  clear ht
  generalize wordB n = s at c ⊢
  go_enter Tryz.func113, Tryz.ntmps113
  go_wp2_with fail
  refine c.mono ?_
  clear c
  rintro e w1 ⟨rfl, hb⟩
  have HB := Lib.hid hb
  clear hb
  go_wp2
  go_ret
  exact ⟨rfl, HB.out⟩
end Go.Proofs.YtkfffoolpdilnaaGreatDoor
