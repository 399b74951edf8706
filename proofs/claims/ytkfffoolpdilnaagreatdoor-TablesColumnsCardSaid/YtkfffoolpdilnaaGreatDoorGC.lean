/-
  Walks: how great texts and grids are.
-/
import Derived.Test.YtkfffoolpdilnaaGreatDoorGA
namespace Go.Proofs.YtkfffoolpdilnaaGreatDoor
open Go.RowKit Go.Bd
theorem sum_take_le : ∀ (xs : List Nat) (k : Nat), (xs.take k).sum ≤ xs.sum
  | [], k => by simp
  | x :: xs, 0 => by simp
  | x :: xs, k + 1 => by have := sum_take_le xs k; simp only [List.take_succ_cons, List.sum_cons]; omega
theorem sum_take_succ {xs : List Nat} {k x : Nat} (h : xs[k]? = some x) : (xs.take (k + 1)).sum = (xs.take k).sum + x := by
  obtain ⟨hk, e⟩ := List.getElem?_eq_some_iff.1 h
  rw [List.take_succ_eq_append_getElem hk, List.sum_append, e]; simp
theorem le_sum : ∀ {xs : List Nat} {x : Nat}, x ∈ xs → x ≤ xs.sum
  | y :: xs, x, h => by
    rw [List.sum_cons]
    rcases List.mem_cons.1 h with rfl | h
    · omega
    · have := le_sum h; omega
/-- the size of texts, where it is not beyond all -/
def textsOk (xs : List ByteArray) (n : Nat) : Prop := n ≤ 1048576 → n = xs.length + (xs.map ByteArray.size).sum
set_option maxRecDepth 100000 in
theorem textsSize_any (v : Value) (xs : List ByteArray) (w : World) (B : Nat) (h : Texts w B v xs) (hl : xs.length ≤ 140737488355328) (hx : ∀ s ∈ xs, s.size ≤ 140737488355328) :
    Calls Tryz.prog 87 #[v] w fun e w' => (∃ n : Nat, e = .returned (.int .i64 n) ∧ n ≤ 281474976710656 ∧ textsOk xs n) ∧ w = w' := by
  obtain ⟨A, c, rfl, hc, f⟩ := h.form
  have F := Lib.hid f
  have HX := Lib.hid hx
  clear f hx h
  generalize hn : xs.length = n at hl hc ⊢
  have HN := Lib.hid hn
  clear hn
  go_enter Tryz.func87, Tryz.ntmps87
  go_wp2
  go_loopg [3, 4] n (fun r s i wr => ∃ k t : Nat, k + r = n ∧ i = .int .i64 k ∧ s = .int .i64 t ∧ t ≤ 281474976710656 ∧ Hid (t = n + ((xs.map ByteArray.size).take k).sum) ∧ w = wr)
  case atStart => exact ⟨0, n, by omega, rfl, rfl, by omega, by unfold Hid; simp, rfl⟩
  case round =>
    obtain ⟨k, t, hk, rfl, rfl, ht, HT, rfl⟩ := hrel
    by_cases hlt : k < n
    · by_cases hbig : t ≤ 1048576
      · obtain ⟨x, hxk⟩ : ∃ x, xs[k]? = some x := ⟨_, List.getElem?_eq_getElem (by rw [HN.out]; exact hlt)⟩
        obtain ⟨b, off, rfl, _, hcx⟩ := F.out k x hxk
        have hxb := HX.out x (List.mem_of_getElem? hxk)
        have HS := Lib.hid (sum_take_succ (xs := xs.map ByteArray.size) (k := k) (x := x.size) (by rw [List.getElem?_map, hxk]; rfl))
        clear hxk
        go_wp2
        go_roundg (gk - 1)
        case measure => omega
        case rel => exact ⟨k + 1, t + x.size, by omega, by go_num, by go_num, by omega, by unfold Hid; rw [HS.out, HT.out]; omega, rfl⟩
      · go_wp2
        go_ret
        exact ⟨⟨t, rfl, ht, fun h => absurd h (by omega)⟩, rfl⟩
    · go_wp2
      all_goals
        go_ret
        refine ⟨⟨t, rfl, ht, fun _ => ?_⟩, rfl⟩
        have h1 := HT.out
        rw [List.take_of_length_le (by rw [List.length_map, HN.out]; omega)] at h1
        rw [HN.out]; exact h1
set_option maxRecDepth 100000 in
theorem gridSize_any (v : Value) (ls : List (List ByteArray)) (w : World) (B : Nat) (h : Grid w B v ls) (hl : ls.length ≤ 200) (hr : ∀ r ∈ ls, r.length ≤ 140737488355328) (hx : ∀ r ∈ ls, ∀ s ∈ r, s.size ≤ 140737488355328) :
    Calls Tryz.prog 20 #[v] w fun e w' => (∃ n : Nat, e = .returned (.int .i64 n) ∧ (n ≤ 5000 → ∀ r ∈ ls, r.length ≤ 5000 ∧ ∀ s ∈ r, s.size ≤ 5000)) ∧ w = w' := by
  obtain ⟨A, c, rfl, hc, f⟩ := h.form
  have F := Lib.hid f
  have HX := Lib.hid hx
  have HR := Lib.hid hr
  clear f hx hr h
  generalize hn : ls.length = n at hl hc ⊢
  have HN := Lib.hid hn
  clear hn
  go_enter Tryz.func20, Tryz.ntmps20
  go_wp2
  go_loopg [3, 4] n (fun r s i wr => ∃ k t : Nat, k + r = n ∧ i = .int .i64 k ∧ s = .int .i64 t ∧ t ≤ 562949953421312 ∧ Hid (t ≤ 5000 → ∀ r ∈ ls.take k, r.length ≤ t ∧ ∀ s ∈ r, s.size ≤ t) ∧ w = wr)
  case atStart => exact ⟨0, n, by omega, rfl, rfl, by omega, by unfold Hid; simp, rfl⟩
  case round =>
    obtain ⟨k, t, hk, rfl, rfl, ht, HT, rfl⟩ := hrel
    by_cases hlt : k < n
    · by_cases hbig : t ≤ 1048576
      · obtain ⟨r, hrk⟩ : ∃ r, ls[k]? = some r := ⟨_, List.getElem?_eq_getElem (by rw [HN.out]; exact hlt)⟩
        obtain ⟨b, off, rA, rc, rfl, _, hcr, htx⟩ := F.out k r hrk
        have hmem := List.mem_of_getElem? hrk
        have c1 := textsSize_any _ r w B htx (HR.out r hmem) (HX.out r hmem)
        have HK := Lib.hid hrk
        clear hrk hmem htx
        go_wp2_with (go_at_call 87; refine c1.mono ?_; rintro e w' ⟨⟨m, rfl, hm, hok⟩, rfl⟩)
        go_roundg (gk - 1)
        case measure => omega
        case rel =>
          refine ⟨k + 1, t + m, by omega, by go_num, by go_num, by omega, ?_, rfl⟩
          intro h5 q hq
          obtain ⟨hkl, ek⟩ := List.getElem?_eq_some_iff.1 HK.out
          rw [List.take_succ_eq_append_getElem hkl, ek, List.mem_append, List.mem_singleton] at hq
          rcases hq with hq | rfl
          · obtain ⟨h1, h2⟩ := HT.out (by omega) q hq
            exact ⟨by omega, fun s hs => by have := h2 s hs; omega⟩
          · have e := hok (by omega)
            refine ⟨by omega, fun s hs => ?_⟩
            have := le_sum (List.mem_map.2 ⟨s, hs, rfl⟩ : s.size ∈ q.map ByteArray.size)
            omega
      · go_wp2
        go_ret
        exact ⟨⟨t, rfl, fun h => absurd h (by omega)⟩, rfl⟩
    · go_wp2
      all_goals
        go_ret
        refine ⟨⟨t, rfl, fun h5 r hr => ?_⟩, rfl⟩
        have h1 := HT.out h5 r (by rw [List.take_of_length_le (by rw [HN.out]; omega)]; exact hr)
        exact ⟨by omega, fun s hs => by have := h1.2 s hs; omega⟩
set_option maxRecDepth 100000 in
/-- more than is gone through, or all of it is small -/
theorem great_any (v : Value) (ls : List (List ByteArray)) (w : World) (B : Nat) (h : Grid w B v ls) (hl : ls.length ≤ 140737488355328) (hr : ∀ r ∈ ls, r.length ≤ 140737488355328) (hx : ∀ r ∈ ls, ∀ s ∈ r, s.size ≤ 140737488355328) :
    Calls Tryz.prog 5 #[v] w fun e w' => (∃ g : Bool, e = .returned (.bool g) ∧ (g = false → ls.length ≤ 200 ∧ ∀ r ∈ ls, r.length ≤ 5000 ∧ ∀ s ∈ r, s.size ≤ 5000)) ∧ w = w' := by
  by_cases h2 : ls.length ≤ 200
  · have c0 := gridSize_any v ls w B h h2 hr hx
    obtain ⟨A, c, rfl, hc, f⟩ := h.form
    clear f h
    have HR := Lib.hid hr
    have HX := Lib.hid hx
    clear hr hx
    generalize ls.length = n at h2 hl hc c0 ⊢
    go_enter Tryz.func5, Tryz.ntmps5
    go_wp2_with (go_at_call 20; refine c0.mono ?_; rintro e w' ⟨⟨m, rfl, hok⟩, rfl⟩)
    go_ret
    refine ⟨⟨_, rfl, fun hg => ⟨h2, hok ?_⟩⟩, rfl⟩
    simp at hg
    omega
  · obtain ⟨A, c, rfl, hc, f⟩ := h.form
    clear f h
    have HR := Lib.hid hr
    have HX := Lib.hid hx
    clear hr hx
    generalize ls.length = n at h2 hl hc ⊢
    go_enter Tryz.func5, Tryz.ntmps5
    go_wp2
    go_ret
    exact ⟨rfl, rfl⟩
end Go.Proofs.YtkfffoolpdilnaaGreatDoor
