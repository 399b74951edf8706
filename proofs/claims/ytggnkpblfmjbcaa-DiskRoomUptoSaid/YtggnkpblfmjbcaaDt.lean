/-
  Walks: is a disk one.
-/
import Derived.Test.YtggnkpblfmjbcaaDh
import Derived.Laws.Cover3
namespace Go.Proofs.Ytggnkpblfmjbcaa
open Go.RowKit Go.Bd
set_option maxRecDepth 100000 in
set_option maxHeartbeats 2000000 in
theorem there_any (db bm : Nat) (x y hv : Value) (w : World) (h : Holds w db 48 #[x, y, .map (some bm), hv]) :
    Calls Try.prog 17 #[.pointer (some ⟨db, 0, none⟩)] w fun e w' => e = .returned (.bool true) ∧ w' = w := by
  have p2 : w.cell? ⟨db, 2, none⟩ = some (.map (some bm)) := h.cell 2
  have hne := fun (m : Option Nat) (w : World) => run_neq_map_nil (P := Try.prog) w 45 9 30 m map_under
  clear h
  go_enter Try.func17, Try.ntmps17
  go_wp2
  all_goals (try go_ret)
  all_goals (first | exact ⟨rfl, rfl⟩ | trace_state)
end Go.Proofs.Ytggnkpblfmjbcaa
