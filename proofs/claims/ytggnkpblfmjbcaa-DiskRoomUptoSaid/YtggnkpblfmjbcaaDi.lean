/-
  Walks: the makers of raw writes; is a disk one; a new disk.
-/
import Derived.Test.YtggnkpblfmjbcaaDh
namespace Go.Proofs.Ytggnkpblfmjbcaa
open Go.RowKit Go.Bd
set_option maxRecDepth 100000 in
set_option maxHeartbeats 2000000 in
theorem empty_any (s : ByteArray) (w : World) (hs : s.size ≤ 80) :
    Calls Try.prog 21 #[.string s] w fun e w' => ∃ f, e = .returned f ∧ RawAt w' (fun k => w.heap.size ≤ k ∧ k < w'.heap.size) f (.empty s) ∧ Below w.heap.size w w' := by
  go_enter Try.func21, Try.ntmps21
  go_wp2
  go_ret
  exact ⟨_, rfl, ⟨_, ⟨Nat.le_refl _, by simp⟩, rfl, Holds.new _ _ _, hs⟩, (Below.refl _ w).alloc (Nat.le_refl _) _⟩
set_option maxRecDepth 100000 in
set_option maxHeartbeats 2000000 in
theorem gone_any (s : ByteArray) (w : World) (hs : s.size ≤ 80) :
    Calls Try.prog 20 #[.string s] w fun e w' => ∃ f, e = .returned f ∧ RawAt w' (fun k => w.heap.size ≤ k ∧ k < w'.heap.size) f (.gone s) ∧ Below w.heap.size w w' := by
  go_enter Try.func20, Try.ntmps20
  go_wp2
  go_ret
  exact ⟨_, rfl, ⟨_, ⟨Nat.le_refl _, by simp⟩, rfl, Holds.new _ _ _, hs⟩, (Below.refl _ w).alloc (Nat.le_refl _) _⟩
set_option maxRecDepth 100000 in
set_option maxHeartbeats 2000000 in
theorem behind_any (s : ByteArray) (q : Bs) (blk off cap : Nat) (w : World) (Ro : Nat → Prop) (hs : s.size ≤ 80) (hq : 0 < q.length ∧ q.length ≤ 512) (hb : Ro blk) (hc : ∀ (j : Nat) u, (u8L q)[j]? = some u → w.cell? ⟨blk, off + j, none⟩ = some u) :
    Calls Try.prog 24 #[.string s, .slice (some ⟨blk, off, none⟩) q.length cap] w fun e w' => ∃ f, e = .returned f ∧ RawAt w' (fun k => Ro k ∨ (w.heap.size ≤ k ∧ k < w'.heap.size)) f (.behind s q) ∧ Below w.heap.size w w' := by
  have HC := Lib.hid hc
  clear hc
  go_enter Try.func24, Try.ntmps24
  go_wp2
  go_ret
  have hbl := ((Below.refl w.heap.size w).alloc (Nat.le_refl _) (.cells #[.string s] 9)).alloc (by simp) (.cells #[.slice (some ⟨blk, off, none⟩) q.length cap] 30)
  exact ⟨_, rfl, ⟨w.heap.size + 1, w.heap.size, blk, off, cap, .inr ⟨by omega, by simp⟩, .inr ⟨Nat.le_refl _, by simp; omega⟩, .inl hb, by simp, by have := Holds.new (w.alloc (.cells #[.string s] 9)) 30 #[.slice (some ⟨blk, off, none⟩) q.length cap]; simpa using this, (Holds.new w _ _).alloc _, hs, hq, fun j u hu => hbl.cell (p := ⟨blk, off + j, none⟩) (World.block_lt_of_cell? w _ (HC.out j u hu)) |>.trans (HC.out j u hu)⟩, hbl⟩
set_option maxRecDepth 100000 in
set_option maxHeartbeats 2000000 in
theorem there_nil (w : World) :
    Calls Try.prog 17 #[.pointer none] w fun e w' => e = .returned (.bool false) ∧ w' = w := by
  go_enter Try.func17, Try.ntmps17
  go_wp2
  go_ret
  exact ⟨rfl, rfl⟩
end Go.Proofs.Ytggnkpblfmjbcaa
