/-
  Walks: slices.Chunk hands back what gives the pieces; its contract for a range.
-/
import Derived.Test.YtggnkpblfmjbcaaDy
namespace Go.Proofs.Ytggnkpblfmjbcaa
open Go.RowKit Go.Bd Go.Shelf
attribute [local go_sem] Oper.semAt_some
set_option maxRecDepth 100000 in
set_option maxHeartbeats 2000000 in
theorem chunk_any (A : Option Addr) (L c : Nat) (w : World) :
    Calls Try.prog 22 #[.slice A L c, .int .i64 512] w fun e w' => e = .returned (.func (.func 30) #[] #[.pointer (some ⟨w.heap.size, 0, none⟩), .pointer (some ⟨w.heap.size + 1, 0, none⟩)]) ∧ w' = (w.alloc (.cells #[.slice A L c] 30)).alloc (.cells #[.int .i64 512] 3) := by
  go_enter Try.func22, Try.ntmps22
  go_wp2
  go_ret
  exact ⟨by simp, rfl⟩
set_option maxRecDepth 100000 in
set_option maxHeartbeats 2000000 in
/-- .. of nothing: no round -/
theorem chunk1_none (F : Fence) (n : Nat) (h7 : F.fn 30) (hro : F.round = none) (l b1 b2 c : Nat) (A : Option Addr) {α : Type} (J : List α → World → Prop) (W : World) (hB1 : W.cell? ⟨b1, 0, none⟩ = some (.slice A 0 c)) (h0 : J [] W) :
    CallsIn F n Try.prog 30 #[.func (.yield l) #[] #[], .pointer (some ⟨b1, 0, none⟩), .pointer (some ⟨b2, 0, none⟩)] W fun e W' => (∃ v, e = .returned v) ∧ J [] W' := by
  refine callsIn_of_wp Try.func30 rfl h7 ?_ hro
  simp only [Try.ntmps30, List.size_toArray, List.length_cons, List.length_nil, Nat.reduceAdd, Nat.reduceSub, Array.replicate_succ, Array.replicate_zero, List.push_toArray, List.append_toArray, List.nil_append, List.cons_append]
  gi_wp2
  gi_loopw [4] (fun i wr => i = .int .i64 0 ∧ J [] wr ∧ wr.cell? ⟨b1, 0, none⟩ = some (.slice A 0 c)) (fun _ _ => 0)
  case atStart => exact ⟨rfl, h0, hB1⟩
  case round =>
    obtain ⟨rfl, hJs, hb⟩ := hrel
    gi_wp2
    go_end0
    exact ⟨⟨_, rfl⟩, hJs⟩
/-- **slices.Chunk(b, 512): THE CONTRACT: the pieces, one behind the other** -/
theorem chunk_stops (F : Fence) (n : Nat) (h7 : F.fn 30) (hro : F.round = none) (hn : 1 ≤ n) (b1 b2 blk off L c : Nat) (A : Option Addr) (hA : L ≠ 0 → A = some ⟨blk, off, none⟩) (hL : L ≤ 1000000000000) (hc : L ≤ c) (hc2 : c ≤ 9223372036854775807)
    (w : World) (hB1 : w.cell? ⟨b1, 0, none⟩ = some (.slice A L c)) (hB2 : w.cell? ⟨b2, 0, none⟩ = some (.int .i64 512)) :
    SeqStopsK F n Try.prog 30 #[.pointer (some ⟨b1, 0, none⟩), .pointer (some ⟨b2, 0, none⟩)] (encP blk off L) (KeepB b1 b2) (fun ys => ∃ k, ys = uptoP L k ∧ L ≤ k * 512) (fun _ => True) ((L + 511) / 512) w := fun l J Jx W hW hJ _ hY h0 => by
  have h1 := (hW.cell (p := ⟨b1, 0, none⟩) (World.block_lt_of_cell? w _ hB1)).trans hB1
  have h2 := (hW.cell (p := ⟨b2, 0, none⟩) (World.block_lt_of_cell? w _ hB2)).trans hB2
  by_cases hz : L = 0
  · subst hz
    exact (chunk1_none F n h7 hro l b1 b2 c A J W h1 h0).mono fun e W' ⟨he, hj⟩ => ⟨he, .inl ⟨[], ⟨0, rfl, Nat.zero_le _⟩, hj⟩⟩
  · obtain rfl := hA hz
    refine (chunk1_in F n h7 hro hn l b1 b2 blk off L c hL hc hc2 J Jx (fun s W hs => hJ s W _ none hs (grown_drew0 W) (fun r e => by cases e)) hY W h1 h2 h0).mono ?_
    rintro e W' ⟨he, ⟨ys, hk, hj⟩ | ⟨pre, hj⟩⟩
    · exact ⟨he, .inl ⟨ys, hk, hj⟩⟩
    · exact ⟨he, .inr ⟨pre, trivial, hj⟩⟩
end Go.Proofs.Ytggnkpblfmjbcaa
