/-
  Walks of the library: IndexRune of a sign beyond ASCII in an ASCII text.
-/
import Derived.Test.YtacghogdodcinaaDoorTW6
import Derived.Test.YtacghogdodcinaaDoorShelf
import Derived.Laws.RangeAny
import Derived.Laws.Runes
import Derived.IntWalk
namespace Go.Proofs.YtacghogdodcinaaDoor
open Go.RowKit Go.Bd
theorem ascii_at {g : ByteArray} (hg : ∀ b ∈ g.data.toList, b.toNat < 128) {i : Nat} (hi : i < g.size) : (g[i]'hi).toNat < 128 :=
  hg _ (List.getElem_mem (l := g.data.toList) (by simpa using hi))
set_option maxRecDepth 100000 in
set_option maxHeartbeats 400000 in
theorem indexRune_bad (g : ByteArray) (w : World) (hg : ∀ b ∈ g.data.toList, b.toNat < 128) :
    Calls Tryd.prog 51 #[.string g, .int .i32 65533] w fun e w' => e = .returned (.int .i64 (-1)) ∧ Below w.heap.size w w' := by
  have HG := Lib.hid hg
  clear hg
  go_enter Tryd.func51, Tryd.ntmps51
  go_wp2
  go_loopg [5, 6] g.size (fun n _ _ wx => ∃ i : Nat, i + n = g.size ∧ wx = w.iter g i)
  case atStart => exact ⟨0, by omega, rfl⟩
  case round =>
    obtain ⟨i, hig, rfl⟩ := hrel
    cases gk with
    | zero =>
      obtain rfl : i = g.size := by omega
      have hnx := run_next_end (P := Tryd.prog) w g g.size
      go_wp2
      go_ret
      exact ⟨rfl, (Below.refl _ _).alloc (Nat.le_refl _) _⟩
    | succ n =>
      have hi : i < g.size := by omega
      have hx := ascii_at HG.out hi
      have hnx := fun ty => run_next_ascii (P := Tryd.prog) w g i ty hi hx
      go_wp2
      all_goals first | omega | skip
      go_roundg n
      case measure => omega
      case rel => exact ⟨i + 1, by omega, rfl⟩
theorem indexByte_high (l : Bs) (hl : ∀ b ∈ l, b.toNat < 128) (c : UInt8) (hc : 128 ≤ c.toNat) : Lib.indexByte l c = -1 := by
  have h := Lib.contains_iff_indexByte l c
  have hn : l.contains c = false := by
    rw [Bool.eq_false_iff]
    intro hm
    have := hl c (by simpa using hm)
    omega
  rw [hn] at h
  have h1 := of_decide_eq_false h.symm
  have h2 := Lib.indexByte_ge l c
  omega
set_option maxRecDepth 100000 in
set_option maxHeartbeats 400000 in
theorem indexRune_valid (g : ByteArray) (r : Int) (w : World) (hg : ∀ b ∈ g.data.toList, b.toNat < 128) (h4 : 4 ≤ g.size) (h5 : g.size ≤ 200) (h1 : 128 ≤ r) (h2 : ¬ r = 65533) (hv : Utf8.valid r = true) :
    Calls Tryd.prog 51 #[.string g, .int .i32 r] w fun e w' => e = .returned (.int .i64 (-1)) ∧ Below w.heap.size w w' := by
  have HG := Lib.hid hg
  clear hg
  obtain ⟨f1, f2, f3⟩ := encode_facts r hv h1
  have hv' : validRune r = true := by rw [← validRune_eq]; exact hv
  have Hv := Lib.hid hv
  clear hv
  have hne : (r == 65533) = false := by simpa using h2
  generalize he : Utf8.encode r = e at f1 f2 f3
  have hce := fun (w : World) => run_convert_int_string (P := Tryd.prog) w 21 9 .i32 r (by rw [Tryd.underlying21]; rfl) Tryd.underlying9
  rw [he] at hce
  have He := Lib.hid he
  clear he
  obtain ⟨n, hn⟩ : ∃ n, e.size = n + 1 := ⟨e.size - 1, by omega⟩
  have hng : n < g.size := by omega
  have hne' : n < e.size := by omega
  have f4 : 128 ≤ (e[n]'hne').toNat := by
    have h := f3 (by omega)
    have e1 : e.size - 1 = n := by omega
    simpa only [e1] using h
  clear f3
  have hx := ascii_at HG.out hng
  have hneq : ((g[n]'hng).toNat : Int) ≠ (e[n]'hne').toNat := by omega
  have hb : (((g[n]'hng).toNat : Int) != (e[n]'hne').toNat) = true := by simpa using hneq
  have hb' : (((g[n]'hng).toNat : Int) == (e[n]'hne').toNat) = false := by simpa using hneq
  clear hneq
  go_enter Tryd.func51, Tryd.ntmps51
  go_wp2_with (go_at_call 58; refine (Tryd.utf8_ValidRune _ _).mono ?_; rintro e w' ⟨rfl, hw⟩; subst hw)
  · go_ret
    exact ⟨rfl, Below.refl _ _⟩
  · go_step3
    go_wp2
    refine wp_loop_rounds 1 ?_
    rw [rounds_succ]
    go_wp2
    go_step3
    go_wp2
    have Hn := Lib.hid hn
    clear hn
    go_quiet (fail)
    go_wp2
    have hbq : Below w'.heap.size w' (w'.drewN nq) := below_drewN (Below.refl _ _) _
    generalize w'.drewN nq = w2 at hbq ⊢
    have q1 : IntKind.i64.wrap ((n : Int) + 1) = (n : Int) + 1 := IntWalk.i64_in _ (by omega)
    have q2 : 0 ≤ (n : Int) + 1 := by omega
    have q3 : ((n : Int) + 1).toNat = n + 1 := by omega
    have q4 : (n : Int) + 1 ≤ (g.size : Int) := by omega
    have e41 : Lib.indexByte (List.take (g.size - (n + 1)) (List.drop (n + 1) g.data.toList)) (e[n]'hne') < 0 := by
      rw [indexByte_high _ (fun b hb => HG.out b (List.mem_of_mem_drop (List.mem_of_mem_take hb))) _ f4]; decide
    go_quiet ((go_at_call 57; exact Calls.quiet_of_same (Tryd.strings_IndexByte _ _ _)))
    clear q1 q2 q3 q4
    go_wp2
    rw [Exit.noGoto_ret]
    simp only [Exit.inBlock, Exit.then]
    rw [Exit.noGoto_ret]
    simp only [Exit.inBlock]
    go_ret
    exact ⟨rfl, below_drewN hbq _⟩
set_option maxRecDepth 100000 in
set_option maxHeartbeats 400000 in
theorem indexRune_none (g : ByteArray) (r : Int) (w : World) (h1 : 128 ≤ r) (h2 : ¬ r = 65533) (hv : validRune r = false) :
    Calls Tryd.prog 51 #[.string g, .int .i32 r] w fun e w' => e = .returned (.int .i64 (-1)) ∧ Below w.heap.size w w' := by
  have hv2 : Lib.validRune r = false := hv
  have hne : (r == 65533) = false := by simpa using h2
  go_enter Tryd.func51, Tryd.ntmps51
  go_wp2_with (go_at_call 58; refine (Tryd.utf8_ValidRune _ _).mono ?_; rintro e w' ⟨rfl, hw⟩; subst hw)
  go_ret
  exact ⟨rfl, Below.refl _ _⟩
/-- whatever the sign beyond ASCII -/
theorem indexRune_high (g : ByteArray) (r : Int) (w : World) (hg : ∀ b ∈ g.data.toList, b.toNat < 128) (h4 : 4 ≤ g.size) (h5 : g.size ≤ 200) (h1 : 128 ≤ r) :
    Calls Tryd.prog 51 #[.string g, .int .i32 r] w fun e w' => e = .returned (.int .i64 (-1)) ∧ Below w.heap.size w w' := by
  by_cases h2 : r = 65533
  · subst h2; exact indexRune_bad g w hg
  · by_cases hv : Utf8.valid r = true
    · exact indexRune_valid g r w hg h4 h5 h1 h2 hv
    · exact indexRune_none g r w h1 h2 (by rw [validRune_eq] at hv; simpa using hv)
end Go.Proofs.YtacghogdodcinaaDoor
