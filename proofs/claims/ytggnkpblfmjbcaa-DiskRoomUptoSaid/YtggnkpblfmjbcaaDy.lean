/-
  Walks: slices.Chunk at bytes: the pieces of 512 bytes come one behind the other.
-/
import Derived.Test.YtggnkpblfmjbcaaDx
import Derived.RangeFuncNested
import Derived.RangeFuncBound
import Derived.RangeFuncCalls
import Derived.RangeFuncLeaves
import Derived.RangeFuncBox
import Derived.Shelf.Abstract
import Derived.Shelf.RegionOpen
import Derived.OwnWalkIn
import Derived.TacticsInMore
import Derived.LoopNIn
import Derived.LoopIn
namespace Go.Proofs.Ytggnkpblfmjbcaa
open Go.RowKit Go.Bd Go.Shelf
attribute [local go_sem] Oper.semAt_some
/-- the pieces of so many bytes -/
abbrev Pc (L : Nat) := {i : Nat // i * 512 < L}
def encP (blk off L : Nat) (x : Pc L) : Array Value := #[.slice (some ⟨blk, off + x.1 * 512, none⟩) (min 512 (L - x.1 * 512)) (min 512 (L - x.1 * 512))]
/-- what has come behind k rounds -/
def uptoP (L : Nat) : Nat → List (Pc L)
  | 0 => []
  | k + 1 => uptoP L k ++ (if h : k * 512 < L then [⟨k, h⟩] else [])
theorem uptoP_length (L : Nat) : ∀ k, (uptoP L k).length ≤ k
  | 0 => Nat.le_refl _
  | k + 1 => by
    unfold uptoP
    have := uptoP_length L k
    rw [List.length_append]
    split <;> simp <;> omega
theorem uptoP_succ (L k : Nat) (h : k * 512 < L) : uptoP L (k + 1) = uptoP L k ++ [⟨k, h⟩] := by
  rw [uptoP]
  simp [h]
/-- what a round keeps: the two boxes -/
def KeepB (b1 b2 : Nat) (W W' : World) : Prop := W'.heap[b1]? = W.heap[b1]? ∧ W'.heap[b2]? = W.heap[b2]?
theorem KeepB.trans {b1 b2 : Nat} {A B C : World} (h : KeepB b1 b2 A B) (k : KeepB b1 b2 B C) : KeepB b1 b2 A C := ⟨k.1.trans h.1, k.2.trans h.2⟩
theorem grown_drew0 (w : World) : w.grownBy w.drew none := ⟨rfl, rfl, rfl, Nat.le_refl _, fun _ _ _ => rfl⟩
set_option maxRecDepth 100000 in
set_option maxHeartbeats 2000000 in
theorem chunk1_in (F : Fence) (n : Nat) (h7 : F.fn 30) (hro : F.round = none) (hn : 1 ≤ n) (l b1 b2 blk off L c : Nat) (hL : L ≤ 1000000000000) (hc : L ≤ c) (hc2 : c ≤ 9223372036854775807) (J Jx : List (Pc L) → World → Prop)
    (hJ : ∀ s W, J s W → J s W.drew)
    (hY : ∀ pre x W, J pre W → pre.length < (L + 511) / 512 → YieldAt F (n - 1) Try.prog l (encP blk off L x) W fun e W' =>
      (e = .returned (.bool true) ∧ J (pre ++ [x]) W' ∧ KeepB b1 b2 W W') ∨ (e = .returned (.bool false) ∧ Jx (pre ++ [x]) W'))
    (W : World) (hB1 : W.cell? ⟨b1, 0, none⟩ = some (.slice (some ⟨blk, off, none⟩) L c)) (hB2 : W.cell? ⟨b2, 0, none⟩ = some (.int .i64 512)) (h0 : J [] W) :
    CallsIn F n Try.prog 30 #[.func (.yield l) #[] #[], .pointer (some ⟨b1, 0, none⟩), .pointer (some ⟨b2, 0, none⟩)] W fun e W' => (∃ v, e = .returned v) ∧
      ((∃ ys, (∃ k, ys = uptoP L k ∧ L ≤ k * 512) ∧ J ys W') ∨ (∃ pre, Jx pre W')) := by
  refine callsIn_of_wp Try.func30 rfl h7 ?_ hro
  simp only [Try.ntmps30, List.size_toArray, List.length_cons, List.length_nil, Nat.reduceAdd, Nat.reduceSub, Array.replicate_succ, Array.replicate_zero, List.push_toArray, List.append_toArray, List.nil_append, List.cons_append]
  gi_wp2
  gi_loopw [4] (fun i wr => ∃ k : Nat, k * 512 < L + 512 ∧ i = .int .i64 ((k * 512 : Nat) : Int) ∧ J (uptoP L k) wr ∧ KeepB b1 b2 W wr)
    (fun i _ => L + 512 - (intOf i).toNat)
  case atStart => exact ⟨0, by omega, rfl, h0, ⟨rfl, rfl⟩⟩
  case round =>
    obtain ⟨k, hk, rfl, hJs, hkb⟩ := hrel
    have hb1 : wr.cell? ⟨b1, 0, none⟩ = some (.slice (some ⟨blk, off, none⟩) L c) := (World.cell?_of_block (a := ⟨b1, 0, none⟩) hkb.1).trans hB1
    have hb2 : wr.cell? ⟨b2, 0, none⟩ = some (.int .i64 512) := (World.cell?_of_block (a := ⟨b2, 0, none⟩) hkb.2).trans hB2
    by_cases hlt : k * 512 < L
    · have hge : L - k * 512 ≤ c - k * 512 := by omega
      obtain ⟨fn, tmps, assign, body, hy, hR⟩ := hY _ ⟨k, hlt⟩ wr.drew (hJ _ _ hJs) (Nat.lt_of_le_of_lt (uptoP_length L k) (by omega))
      dsimp only [encP] at hy
      rcases Nat.lt_or_ge (L - k * 512) 512 with h5 | h5
      · rw [Nat.min_eq_right (by omega)] at hy
        gi_wp2
        gi_region
        all_goals gi_wp2
        all_goals (refine hR.mono ?_)
        all_goals (rintro e W3 (⟨rfl, hJ3, hk3⟩ | ⟨rfl, hJx3⟩))
        all_goals (first
          | (have hk3' : KeepB b1 b2 wr W3 := ⟨hk3.1, hk3.2⟩
             have hb21 : W3.cell? ⟨b2, 0, none⟩ = some (.int .i64 512) := (World.cell?_of_block (a := ⟨b2, 0, none⟩) hk3'.2).trans hb2
             gi_wp2
             go_roundw
             case rel => exact ⟨k + 1, by omega, by simp; omega, by rw [uptoP_succ L k hlt]; exact hJ3, hkb.trans hk3'⟩
             case measure => simp [intOf]; omega)
          | (gi_wp2
             refine bodyPost_ret (results_none rfl _ _ _) rfl ?_
             exact ⟨⟨_, rfl⟩, .inr ⟨_, hJx3⟩⟩))
      · rw [Nat.min_eq_left (by omega)] at hy
        gi_wp2
        gi_region
        all_goals gi_wp2
        all_goals (refine hR.mono ?_)
        all_goals (rintro e W3 (⟨rfl, hJ3, hk3⟩ | ⟨rfl, hJx3⟩))
        all_goals (first
          | (have hk3' : KeepB b1 b2 wr W3 := ⟨hk3.1, hk3.2⟩
             have hb21 : W3.cell? ⟨b2, 0, none⟩ = some (.int .i64 512) := (World.cell?_of_block (a := ⟨b2, 0, none⟩) hk3'.2).trans hb2
             gi_wp2
             go_roundw
             case rel => exact ⟨k + 1, by omega, by simp; omega, by rw [uptoP_succ L k hlt]; exact hJ3, hkb.trans hk3'⟩
             case measure => simp [intOf]; omega)
          | (gi_wp2
             refine bodyPost_ret (results_none rfl _ _ _) rfl ?_
             exact ⟨⟨_, rfl⟩, .inr ⟨_, hJx3⟩⟩))
    · gi_wp2
      go_end0
      exact ⟨⟨_, rfl⟩, .inl ⟨_, ⟨k, rfl, by omega⟩, hJs⟩⟩
end Go.Proofs.Ytggnkpblfmjbcaa
