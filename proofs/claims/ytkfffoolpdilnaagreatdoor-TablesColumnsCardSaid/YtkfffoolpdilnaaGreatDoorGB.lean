/-
  Walks: texts alike, sizes, clean texts.
-/
import Derived.Test.YtkfffoolpdilnaaGreatDoorGA
namespace Go.Proofs.YtkfffoolpdilnaaGreatDoor
open Go.RowKit Go.Bd
set_option maxRecDepth 100000 in
theorem sameTexts_any (va vb : Value) (xs ys : List ByteArray) (w : World) (B : Nat) (ha : Texts w B va xs) (hb : Texts w B vb ys) (hx : xs.length ≤ 140737488355328) (hy : ys.length ≤ 140737488355328) :
    Calls Tryz.prog 11 #[va, vb] w fun e w' => e = .returned (.bool (decide (xs = ys))) ∧ Below w.heap.size w w' := by
  obtain ⟨A, ca, rfl, hca, fa⟩ := ha.form
  obtain ⟨C, cb, rfl, hcb, fb⟩ := hb.form
  have FA := Lib.hid fa
  have FB := Lib.hid fb
  clear ha hb fa fb
  generalize hn : xs.length = n at hx hca ⊢
  generalize hm : ys.length = m at hy hcb ⊢
  have HN := Lib.hid hn
  have HM := Lib.hid hm
  clear hn hm
  by_cases hnm : n = m
  · subst hnm
    go_enter Tryz.func11, Tryz.ntmps11
    go_wp2
    go_loopg [5] n (fun r i wr => ∃ k : Nat, k + r = n ∧ i = .int .i64 k ∧ Hid (xs.take k = ys.take k) ∧ Below w.heap.size w wr ∧ (∀ p : Addr, wr.cell? p = w.cell? p))
    case atStart => exact ⟨0, by omega, rfl, by unfold Hid; simp, Below.refl _ _, fun _ => rfl⟩
    case round =>
      obtain ⟨k, hk, rfl, HT, hbl, hcell⟩ := hrel
      by_cases hlt : k < n
      · obtain ⟨s, hs⟩ : ∃ s, xs[k]? = some s := ⟨_, List.getElem?_eq_getElem (by rw [HN.out]; exact hlt)⟩
        obtain ⟨t, ht⟩ : ∃ s, ys[k]? = some s := ⟨_, List.getElem?_eq_getElem (by rw [HM.out]; exact hlt)⟩
        obtain ⟨b1, o1, rfl, _, c1⟩ := FA.out k s hs
        obtain ⟨b2, o2, rfl, _, c2⟩ := FB.out k t ht
        replace c1 := (hcell _).trans c1
        replace c2 := (hcell _).trans c2
        have HC := Lib.hid hcell
        have HS := Lib.hid hs
        have HT2 := Lib.hid ht
        clear hcell hs ht
        by_cases hst : s = t
        · subst hst
          go_wp2
          go_quiet (fail)
          go_wp2
          have hb2 := below_drewN hbl nq
          go_roundg (gk - 1)
          case measure => omega
          case rel =>
            refine ⟨k + 1, by omega, by go_num, ?_, hb2, fun p => HC.out p⟩
            unfold Hid
            rw [List.take_add_one, List.take_add_one, HS.out, HT2.out, HT.out]
        · have e1 := ba_ne hst
          go_wp2
          go_quiet (fail)
          go_wp2
          have hb2 := below_drewN hbl nq
          go_ret
          refine ⟨ret_bool ?_, hb2⟩
          refine (decide_eq_false fun e => hst ?_).symm
          have h1 := HS.out; have h2 := HT2.out
          rw [e, h2] at h1
          exact (Option.some.inj h1).symm
      · have hk' : n ≤ k := by omega
        have HC := Lib.hid hcell
        clear hcell
        go_wp2
        go_ret
        refine ⟨ret_bool ?_, hbl⟩
        have h1 := HT.out
        rw [List.take_of_length_le (by rw [HN.out]; exact hk'), List.take_of_length_le (by rw [HM.out]; exact hk')] at h1
        exact (decide_eq_true h1).symm
  · go_enter Tryz.func11, Tryz.ntmps11
    go_wp2
    go_ret
    refine ⟨ret_bool ?_, Below.refl _ _⟩
    refine (decide_eq_false fun e => hnm ?_).symm
    rw [← HN.out, ← HM.out, e]
end Go.Proofs.YtkfffoolpdilnaaGreatDoor
