/-
  Walks: Beyond, numbers alike.
-/
import Derived.Test.YtkfffoolpdilnaaGreatDoorGC
import Derived.Test.YtkfffoolpdilnaaGreatDoorGD
namespace Go.Proofs.YtkfffoolpdilnaaGreatDoor
open Go.RowKit Go.Bd
set_option maxHeartbeats 400000 in
theorem beyond_any (g : Nat) (xs : List Nat) (w : World) (hn : xs.length ≤ 100) (hx : ∀ x ∈ xs, x ≤ 140737488355328) (hc : ∀ (j x : Nat), xs[j]? = some x → w.cell? ⟨g, j, none⟩ = some (.int .i64 x)) :
    Calls Tryz.prog 17 #[.slice (some ⟨g, 0, none⟩) xs.length xs.length] w fun e w' => e = .returned (.bool (decide (1048576 < xs.sum))) ∧ w = w' := by
  have HX := Lib.hid hx
  have HC := Lib.hid hc
  clear hx hc
  generalize hL : xs.length = n at hn ⊢
  have HL := Lib.hid hL
  clear hL
  go_enter Tryz.func17, Tryz.ntmps17
  go_wp2
  go_loopg [3, 4] n (fun r s i wr => ∃ k t : Nat, k + r = n ∧ i = .int .i64 k ∧ s = .int .i64 t ∧ t ≤ 1048576 ∧ Hid ((xs.take k).sum = t) ∧ w = wr)
  case atStart => exact ⟨0, 0, by omega, rfl, rfl, by omega, by unfold Hid; simp, rfl⟩
  case round =>
    obtain ⟨k, t, hk, rfl, rfl, ht, HT, rfl⟩ := hrel
    by_cases hlt : k < n
    · obtain ⟨x, hxk⟩ : ∃ x, xs[k]? = some x := ⟨_, List.getElem?_eq_getElem (by rw [HL.out]; exact hlt)⟩
      have hcx := HC.out k x hxk
      have hxb := HX.out x (List.mem_of_getElem? hxk)
      have HS := Lib.hid (sum_take_succ hxk)
      have HSL := Lib.hid (sum_take_le xs (k + 1))
      clear hxk
      by_cases hbig : 1048576 < t + x
      · go_wp2
        go_ret
        refine ⟨ret_bool ?_, rfl⟩
        have h1 := HS.out; have h2 := HSL.out; rw [HT.out] at h1
        exact (decide_eq_true (by omega)).symm
      · go_wp2
        go_roundg (gk - 1)
        case measure => omega
        case rel => exact ⟨k + 1, t + x, by omega, by go_num, by go_num, by omega, by unfold Hid; rw [HS.out, HT.out], rfl⟩
    · go_wp2
      go_ret
      refine ⟨ret_bool ?_, rfl⟩
      have h1 := HT.out
      rw [List.take_of_length_le (by rw [HL.out]; omega)] at h1
      exact (decide_eq_false (by omega)).symm
theorem beyond_one (x : Nat) (w : World) (hx : x ≤ 140737488355328) :
    Calls Tryz.prog 17 #[.slice (some ⟨w.heap.size, 0, none⟩) 1 1] (w.alloc (.cells #[.int .i64 x] 3)) fun e w' => e = .returned (.bool (decide (1048576 < x))) ∧ w.alloc (.cells #[.int .i64 x] 3) = w' := by
  have := beyond_any w.heap.size [x] (w.alloc (.cells #[.int .i64 x] 3)) (by simp) (by simpa using hx) (fun j y h => by
    cases j with
    | zero => simp at h; subst h; simp
    | succ j => simp at h)
  have hsum : ([x] : List Nat).sum = x := by simp
  rw [hsum] at this
  exact this
set_option maxRecDepth 100000 in
theorem sameInts_any (va vb : Value) (xs ys : List Nat) (w : World) (B : Nat) (ha : Rd w B va (xs.map natV)) (hb : Rd w B vb (ys.map natV)) (hx : xs.length ≤ 140737488355328) (hy : ys.length ≤ 140737488355328) :
    Calls Tryz.prog 9 #[va, vb] w fun e w' => e = .returned (.bool (decide (xs = ys))) ∧ Below w.heap.size w w' := by
  obtain ⟨A, ca, rfl, hca, fa⟩ := ha.form
  obtain ⟨C, cb, rfl, hcb, fb⟩ := hb.form
  rw [List.length_map] at hca hcb
  rw [List.length_map, List.length_map]
  have FA : Hid (∀ (j : Nat) x, xs[j]? = some x → ∃ b off, A = some ⟨b, off, none⟩ ∧ b < B ∧ w.cell? ⟨b, off + j, none⟩ = some (.int .i64 (x : Int))) := fun j x hj => fa j _ (getElem?_map_natV hj)
  have FB : Hid (∀ (j : Nat) x, ys[j]? = some x → ∃ b off, C = some ⟨b, off, none⟩ ∧ b < B ∧ w.cell? ⟨b, off + j, none⟩ = some (.int .i64 (x : Int))) := fun j x hj => fb j _ (getElem?_map_natV hj)
  clear ha hb fa fb
  generalize hn : xs.length = n at hx hca ⊢
  generalize hm : ys.length = m at hy hcb ⊢
  have HN := Lib.hid hn
  have HM := Lib.hid hm
  clear hn hm
  by_cases hnm : n = m
  · subst hnm
    go_enter Tryz.func9, Tryz.ntmps9
    go_wp2
    go_loopg [5] n (fun r i wr => ∃ k : Nat, k + r = n ∧ i = .int .i64 k ∧ Hid (xs.take k = ys.take k) ∧ Below w.heap.size w wr ∧ (∀ p : Addr, wr.cell? p = w.cell? p))
    case atStart => exact ⟨0, by omega, rfl, by unfold Hid; simp, Below.refl _ _, fun _ => rfl⟩
    case round =>
      obtain ⟨k, hk, rfl, HT, hbl, hcell⟩ := hrel
      by_cases hlt : k < n
      · obtain ⟨s, hs⟩ : ∃ s, xs[k]? = some s := ⟨_, List.getElem?_eq_getElem (by rw [HN.out]; exact hlt)⟩
        obtain ⟨t, ht⟩ : ∃ s, ys[k]? = some s := ⟨_, List.getElem?_eq_getElem (by rw [HM.out]; exact hlt)⟩
        obtain ⟨b1, o1, rfl, _, c1⟩ := FA.out k s hs
        obtain ⟨b2, o2, rfl, _, c2⟩ := FB.out k t ht
        replace c1 := (hcell _).trans c1
        replace c2 := (hcell _).trans c2
        have HC := Lib.hid hcell
        have HS := Lib.hid hs
        have HT2 := Lib.hid ht
        clear hcell hs ht
        by_cases hst : s = t
        · subst hst
          go_wp2
          go_quiet (fail)
          go_wp2
          have hb2 := below_drewN hbl nq
          go_roundg (gk - 1)
          case measure => omega
          case rel =>
            refine ⟨k + 1, by omega, by go_num, ?_, hb2, fun p => HC.out p⟩
            unfold Hid
            rw [List.take_add_one, List.take_add_one, HS.out, HT2.out, HT.out]
        · have e1 : ((s : Int) == (t : Int)) = false := by simp; omega
          have e2 : ((s : Int) != (t : Int)) = true := by simp; omega
          go_wp2
          go_quiet (fail)
          go_wp2
          have hb2 := below_drewN hbl nq
          go_ret
          refine ⟨ret_bool ?_, hb2⟩
          refine (decide_eq_false fun e => hst ?_).symm
          have h1 := HS.out; have h2 := HT2.out
          rw [e, h2] at h1
          exact (Option.some.inj h1).symm
      · have hk' : n ≤ k := by omega
        have HC := Lib.hid hcell
        clear hcell
        go_wp2
        go_ret
        refine ⟨ret_bool ?_, hbl⟩
        have h1 := HT.out
        rw [List.take_of_length_le (by rw [HN.out]; exact hk'), List.take_of_length_le (by rw [HM.out]; exact hk')] at h1
        exact (decide_eq_true h1).symm
  · go_enter Tryz.func9, Tryz.ntmps9
    go_wp2
    go_ret
    refine ⟨ret_bool ?_, Below.refl _ _⟩
    refine (decide_eq_false fun e => hnm ?_).symm
    rw [← HN.out, ← HM.out, e]
end Go.Proofs.YtkfffoolpdilnaaGreatDoor
