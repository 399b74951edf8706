/-
  Walks: how many bytes; how many raw writes there were.
-/
import Derived.Test.YtggnkpblfmjbcaaDt
namespace Go.Proofs.Ytggnkpblfmjbcaa
open Go.RowKit Go.Bd
set_option maxRecDepth 100000 in
set_option maxHeartbeats 2000000 in
theorem used_any {w : World} {F Ro : Nat → Prop} {db size bm : Nat} {es : List Fe} {hist rs : List Raw} {hv : Value} {fs : List Value} (h : DiskAt w F Ro db size es hist bm hv fs rs) :
    Calls Try.prog 15 #[.pointer (some ⟨db, 0, none⟩)] w fun e w' => e = .returned (.int .i64 (usedB (fsOf es) : Int)) ∧ w' = w := by
  have ht := there_any db bm _ _ hv w h.hold
  have p1 := h.hold.cell 1
  simp at p1
  clear h
  go_enter Try.func15, Try.ntmps15
  go_wp2_with (go_at_call 17; refine ht.mono ?_; rintro e w1 ⟨rfl, rfl⟩)
  all_goals (try go_ret)
  all_goals (first | exact ⟨rfl, rfl⟩ | trace_state)
set_option maxRecDepth 100000 in
set_option maxHeartbeats 2000000 in
theorem writes_any {w : World} {F Ro : Nat → Prop} {db size bm : Nat} {es : List Fe} {hist rs : List Raw} {hv : Value} {fs : List Value} (h : DiskAt w F Ro db size es hist bm hv fs rs) :
    Calls Try.prog 10 #[.pointer (some ⟨db, 0, none⟩)] w fun e w' => e = .returned (.int .i64 (hist.length : Int)) ∧ w' = w := by
  obtain ⟨HA, hcp, rfl⟩ : ∃ A c, hv = .slice A hist.length c := by
    rcases h.row.2 with ⟨h1, h2⟩ | ⟨g, cap, cur, h1, _⟩
    · exact ⟨none, 0, by rw [h1, h2]⟩
    · exact ⟨_, _, h1⟩
  have ht := there_any db bm _ _ _ w h.hold
  have p3 := h.hold.cell 3
  simp at p3
  clear h
  go_enter Try.func10, Try.ntmps10
  go_wp2_with (go_at_call 17; refine ht.mono ?_; rintro e w1 ⟨rfl, rfl⟩)
  all_goals (try go_ret)
  all_goals (first | exact ⟨rfl, rfl⟩ | trace_state)
end Go.Proofs.Ytggnkpblfmjbcaa
