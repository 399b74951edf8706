/-
  Walks: a new disk.
-/
import Derived.Test.YtggnkpblfmjbcaaDu
namespace Go.Proofs.Ytggnkpblfmjbcaa
open Go.RowKit Go.Bd
/-- a disk without files -/
theorem DiskAt.new {w : World} {db bm : Nat} {size : Nat} (hh : Holds w db 48 #[.int .i64 (size : Int), .int .i64 0, .map (some bm), .slice none 0 0]) (hm : FsMap w Try.prog 9 bm []) (hne : ¬ db = bm) {F Ro : Nat → Prop} (h1 : F db) (h2 : F bm) (hl : ∀ k, F k → k < w.heap.size) (hr : ∀ k, Ro k → k < w.heap.size) (ho : ∀ k, Ro k → ¬ F k) :
    DiskAt w F Ro db size [] [] bm (.slice none 0 0) [] [] where
  hold := hh
  map := hm
  uniq := List.Pairwise.nil
  names := fun e he => by cases he
  rows := fun e he => by cases he
  apart := List.Pairwise.nil
  row := World.ownsRow_nil _ _ _ _
  raws := ⟨rfl, fun j f r h => by simp at h⟩
  says := rfl
  inDb := h1
  inBm := h2
  inHv := fun k hk => by cases hk
  inEs := fun e he => by cases he
  offDb := ⟨hne, (fun k hk => by cases hk), (fun e he => by cases he)⟩
  ltF := hl
  ltR := hr
  off := ho
set_option maxRecDepth 100000 in
set_option maxHeartbeats 2000000 in
theorem new_any (size : Nat) (hs : size ≤ 8388608) (w : World) :
    Calls Try.prog 7 #[.int .i64 (size : Int)] w fun e w' => e = .returned (.tuple #[.pointer (some ⟨w.heap.size + 1, 0, none⟩), .int .i64 0]) ∧ Holds w' (w.heap.size + 1) 48 #[.int .i64 (size : Int), .int .i64 0, .map (some w.heap.size), .slice none 0 0] ∧
      FsMap w' Try.prog 9 w.heap.size [] ∧ Below w.heap.size w w' ∧ w'.heap.size = w.heap.size + 2 := by
  have hmm := @run_makeMap Try.prog
  go_enter Try.func7, Try.ntmps7
  go_wp2
  go_ret2
  have hH := Holds.new (w.alloc (.map #[] 0)) 48 #[.int .i64 (size : Int), .int .i64 0, .map (some w.heap.size), .slice none 0 0]
  rw [World.size_alloc] at hH
  exact ⟨rfl, hH, (FsMap.new w _ _).eq (Below.heap_alloc _ _ _ (by simp)), ((Below.refl _ w).alloc (Nat.le_refl _) _).alloc (by simp) _, by simp⟩
end Go.Proofs.Ytggnkpblfmjbcaa
