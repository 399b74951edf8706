/-
  Walks: a file is read.
-/
import Derived.Test.YtggnkpblfmjbcaaDw
namespace Go.Proofs.Ytggnkpblfmjbcaa
open Go.RowKit Go.Bd
/-- what a read gives: bytes, and an errno -/
def readB (fs : Fs) (s : ByteArray) : Bs × Nat := if nameB s then match getB fs s with | some c => (c, 0) | none => ([], 5) else ([], 1)
set_option maxRecDepth 100000 in
set_option maxHeartbeats 2000000 in
theorem read_any {w : World} {F Ro : Nat → Prop} {db size bm : Nat} {es : List Fe} {hist rs : List Raw} {hv : Value} {fs : List Value} (h : DiskAt w F Ro db size es hist bm hv fs rs) (s : ByteArray) (hs : s.size ≤ 140737488355328) (hu : usedB (fsOf es) ≤ 1000000000000) :
    Calls Try.prog 13 #[.pointer (some ⟨db, 0, none⟩), .string s] w fun e w' => ∃ v', e = .returned (.tuple #[v', .int .i64 ((readB (fsOf es) s).2 : Int)]) ∧ w'.ownsRow w.heap.size 5 1 v' (readB (fsOf es) s).1.length (u8L (readB (fsOf es) s).1) ∧ Below w.heap.size w w' := by
  have ht := there_any db bm _ _ hv w h.hold
  have hnm := named_any s w hs
  have p2 := h.hold.cell 2
  simp at p2
  have hl := h.map.look_ok (s := s) str_key map_under (zero_bytes w) (by simp only [maxLen]; omega)
  obtain ⟨A, c, hval, hlc⟩ := valF_form h.rows s
  have hrow := valF_row h.rows s
  have hle : ((getB (fsOf es) s).getD []).length ≤ usedB (fsOf es) := by
    have := used_del (by rw [h.says]; exact uniq_runR _ : UniqB (fsOf es)) s
    omega
  have hsome : (findF es s).isSome = (getB (fsOf es) s).isSome := by rw [getB_of]; simp
  rw [hsome] at hl
  rw [hval] at hl hrow
  clear h hsome hval
  unfold readB
  cases hb : nameB s with
  | false =>
    rw [hb] at hnm
    go_enter Try.func13, Try.ntmps13
    go_wp2_with (first
      | (go_at_call 17; refine ht.mono ?_; rintro e w1 ⟨rfl, rfl⟩)
      | (go_at_call 18; refine hnm.mono ?_; rintro e w1 ⟨rfl, rfl⟩))
    go_ret2
    exact ⟨_, rfl, World.ownsRow_nil _ _ _ _, Below.refl _ _⟩
  | true =>
    rw [hb] at hnm
    cases hg : getB (fsOf es) s with
    | none =>
      rw [hg] at hl hrow
      go_enter Try.func13, Try.ntmps13
      go_wp2_with (first
        | (go_at_call 17; refine ht.mono ?_; rintro e w1 ⟨rfl, rfl⟩)
        | (go_at_call 18; refine hnm.mono ?_; rintro e w1 ⟨rfl, rfl⟩))
      go_ret2
      exact ⟨_, rfl, World.ownsRow_nil _ _ _ _, Below.refl _ _⟩
    | some q =>
      rw [hg] at hl hrow hle
      simp only [Option.getD_some, Option.isSome_some] at hl hrow hle
      cases A with
      | none =>
        have hq0 : q.length = 0 := by
          rcases hrow.2 with ⟨_, h2⟩ | ⟨g, cap, cur, h1, _⟩
          · exact h2
          · simp at h1
        obtain rfl : q = [] := List.eq_nil_of_length_eq_zero hq0
        have hcl := clone_nil 0 c w
        go_enter Try.func13, Try.ntmps13
        go_wp2_with (first
          | (go_at_call 17; refine ht.mono ?_; rintro e w1 ⟨rfl, rfl⟩)
          | (go_at_call 18; refine hnm.mono ?_; rintro e w1 ⟨rfl, rfl⟩)
          | (go_at_call 23; refine hcl.mono ?_; rintro e w1 ⟨rfl, rfl⟩))
        go_ret2
        exact ⟨_, rfl, World.ownsRow_nil _ _ _ _, Below.refl _ _⟩
      | some a =>
        obtain ⟨g, rfl, hcells⟩ : ∃ g, a = ⟨g, 0, none⟩ ∧ ∀ (j : Nat) u, (u8L q)[j]? = some u → w.cell? ⟨g, 0 + j, none⟩ = some u := by
          have hc := hrow
          rcases hrow.2 with ⟨h1, _⟩ | ⟨g, cap, cur, h1, _⟩
          · simp at h1
          · simp at h1
            obtain ⟨rfl, _⟩ := h1
            exact ⟨g, rfl, fun j u hj => by have := hc.cells (g := g) rfl j u hj; rwa [add_addr] at this⟩
        have hcl := clone_any q g 0 c w (by omega) hcells
        clear hcells hrow
        go_enter Try.func13, Try.ntmps13
        go_wp2_with (first
          | (go_at_call 17; refine ht.mono ?_; rintro e w1 ⟨rfl, rfl⟩)
          | (go_at_call 18; refine hnm.mono ?_; rintro e w1 ⟨rfl, rfl⟩)
          | (go_at_call 23; refine hcl.mono ?_; rintro e w1 ⟨v', rfl, ho, hnn, hbl⟩))
        go_ret2
        exact ⟨_, rfl, ho, hbl⟩
end Go.Proofs.Ytggnkpblfmjbcaa
