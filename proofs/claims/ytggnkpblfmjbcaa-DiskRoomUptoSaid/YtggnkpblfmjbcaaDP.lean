/-
  Walks: texts alike, bytes alike.
-/
import Derived.Test.YtggnkpblfmjbcaaDO
namespace Go.Proofs.Ytggnkpblfmjbcaa
open Go.RowKit Go.Bd
theorem ret_bool {a b : Bool} (h : a = b) : Ending.returned (.bool a) = .returned (.bool b) := by rw [h]
theorem ba_ext {s t : ByteArray} (h : s.data.toList = t.data.toList) : s = t := by
  cases s; cases t
  simp only at h
  rw [Array.toList_inj.1 h]
theorem ba_ne {s t : ByteArray} (h : ¬ s = t) : (s.toList == t.toList) = false := by
  rw [ByteArray.toList_eq, ByteArray.toList_eq]
  exact beq_eq_false_iff_ne.2 fun e => h (ba_ext e)
/-- a slice of texts as it reads -/
def Texts (w : World) (B : Nat) (v : Value) (xs : List ByteArray) : Prop := Rd w B v (xs.map Value.string)
theorem Texts.form {w : World} {B : Nat} {v : Value} {xs : List ByteArray} (h : Texts w B v xs) : ∃ A c, v = .slice A xs.length c ∧ xs.length ≤ c ∧ ∀ (j : Nat) s, xs[j]? = some s → ∃ b off, A = some ⟨b, off, none⟩ ∧ b < B ∧ w.cell? ⟨b, off + j, none⟩ = some (.string s) := by
  obtain ⟨A, c, hv, hc, h⟩ := Rd.form h
  rw [List.length_map] at hv hc
  exact ⟨A, c, hv, hc, fun j s hj => h j _ (by rw [List.getElem?_map, hj]; rfl)⟩
set_option maxRecDepth 100000 in
theorem sameTexts_any (va vb : Value) (xs ys : List ByteArray) (w : World) (B : Nat) (ha : Texts w B va xs) (hb : Texts w B vb ys) (hx : xs.length ≤ 140737488355328) (hy : ys.length ≤ 140737488355328) :
    Calls Try.prog 25 #[va, vb] w fun e w' => e = .returned (.bool (decide (xs = ys))) ∧ Below w.heap.size w w' := by
  obtain ⟨A, ca, rfl, hca, fa⟩ := ha.form
  obtain ⟨C, cb, rfl, hcb, fb⟩ := hb.form
  have FA := Lib.hid fa
  have FB := Lib.hid fb
  clear ha hb fa fb
  generalize hn : xs.length = n at hx hca ⊢
  generalize hm : ys.length = m at hy hcb ⊢
  have HN := Lib.hid hn
  have HM := Lib.hid hm
  clear hn hm
  by_cases hnm : n = m
  · subst hnm
    go_enter Try.func25, Try.ntmps25
    go_wp2
    go_loopg [5] n (fun r i wr => ∃ k : Nat, k + r = n ∧ i = .int .i64 k ∧ Hid (xs.take k = ys.take k) ∧ Below w.heap.size w wr ∧ (∀ p : Addr, wr.cell? p = w.cell? p))
    case atStart => exact ⟨0, by omega, rfl, by unfold Hid; simp, Below.refl _ _, fun _ => rfl⟩
    case round =>
      obtain ⟨k, hk, rfl, HT, hbl, hcell⟩ := hrel
      by_cases hlt : k < n
      · obtain ⟨s, hs⟩ : ∃ s, xs[k]? = some s := ⟨_, List.getElem?_eq_getElem (by rw [HN.out]; exact hlt)⟩
        obtain ⟨t, ht⟩ : ∃ s, ys[k]? = some s := ⟨_, List.getElem?_eq_getElem (by rw [HM.out]; exact hlt)⟩
        obtain ⟨b1, o1, rfl, _, c1⟩ := FA.out k s hs
        obtain ⟨b2, o2, rfl, _, c2⟩ := FB.out k t ht
        replace c1 := (hcell _).trans c1
        replace c2 := (hcell _).trans c2
        have HC := Lib.hid hcell
        have HS := Lib.hid hs
        have HT2 := Lib.hid ht
        clear hcell hs ht
        by_cases hst : s = t
        · subst hst
          go_wp2
          go_quiet (fail)
          go_wp2
          have hb2 := below_drewN hbl nq
          go_roundg (gk - 1)
          case measure => omega
          case rel =>
            refine ⟨k + 1, by omega, by go_num, ?_, hb2, fun p => HC.out p⟩
            unfold Hid
            rw [List.take_add_one, List.take_add_one, HS.out, HT2.out, HT.out]
        · have e1 := ba_ne hst
          go_wp2
          go_quiet (fail)
          go_wp2
          have hb2 := below_drewN hbl nq
          go_ret
          refine ⟨ret_bool ?_, hb2⟩
          refine (decide_eq_false fun e => hst ?_).symm
          have h1 := HS.out; have h2 := HT2.out
          rw [e, h2] at h1
          exact (Option.some.inj h1).symm
      · have hk' : n ≤ k := by omega
        have HC := Lib.hid hcell
        clear hcell
        go_wp2
        go_ret
        refine ⟨ret_bool ?_, hbl⟩
        have h1 := HT.out
        rw [List.take_of_length_le (by rw [HN.out]; exact hk'), List.take_of_length_le (by rw [HM.out]; exact hk')] at h1
        exact (decide_eq_true h1).symm
  · go_enter Try.func25, Try.ntmps25
    go_wp2
    go_ret
    refine ⟨ret_bool ?_, Below.refl _ _⟩
    refine (decide_eq_false fun e => hnm ?_).symm
    rw [← HN.out, ← HM.out, e]
/-- a slice of bytes as it reads -/
def BytesR (w : World) (B : Nat) (v : Value) (xs : Bs) : Prop := Rd w B v (u8L xs)
theorem BytesR.form {w : World} {B : Nat} {v : Value} {xs : Bs} (h : BytesR w B v xs) : ∃ A c, v = .slice A xs.length c ∧ xs.length ≤ c ∧ ∀ (j : Nat) s, xs[j]? = some s → ∃ b off, A = some ⟨b, off, none⟩ ∧ b < B ∧ w.cell? ⟨b, off + j, none⟩ = some (.int .u8 (s.toNat : Int)) := by
  obtain ⟨A, c, hv, hc, h⟩ := Rd.form h
  rw [u8L_length] at hv hc
  exact ⟨A, c, hv, hc, fun j s hj => h j _ (by unfold u8L; rw [List.getElem?_map, hj]; rfl)⟩
set_option maxRecDepth 100000 in
theorem sameBytes_any (va vb : Value) (xs ys : Bs) (w : World) (B : Nat) (ha : BytesR w B va xs) (hb : BytesR w B vb ys) (hx : xs.length ≤ 140737488355328) (hy : ys.length ≤ 140737488355328) :
    Calls Try.prog 14 #[va, vb] w fun e w' => e = .returned (.bool (decide (xs = ys))) ∧ Below w.heap.size w w' := by
  obtain ⟨A, ca, rfl, hca, fa⟩ := ha.form
  obtain ⟨C, cb, rfl, hcb, fb⟩ := hb.form
  have FA := Lib.hid fa
  have FB := Lib.hid fb
  clear ha hb fa fb
  generalize hn : xs.length = n at hx hca ⊢
  generalize hm : ys.length = m at hy hcb ⊢
  have HN := Lib.hid hn
  have HM := Lib.hid hm
  clear hn hm
  by_cases hnm : n = m
  · subst hnm
    go_enter Try.func14, Try.ntmps14
    go_wp2
    go_loopg [5] n (fun r i wr => ∃ k : Nat, k + r = n ∧ i = .int .i64 k ∧ Hid (xs.take k = ys.take k) ∧ Below w.heap.size w wr ∧ (∀ p : Addr, wr.cell? p = w.cell? p))
    case atStart => exact ⟨0, by omega, rfl, by unfold Hid; simp, Below.refl _ _, fun _ => rfl⟩
    case round =>
      obtain ⟨k, hk, rfl, HT, hbl, hcell⟩ := hrel
      by_cases hlt : k < n
      · obtain ⟨s, hs⟩ : ∃ s, xs[k]? = some s := ⟨_, List.getElem?_eq_getElem (by rw [HN.out]; exact hlt)⟩
        obtain ⟨t, ht⟩ : ∃ s, ys[k]? = some s := ⟨_, List.getElem?_eq_getElem (by rw [HM.out]; exact hlt)⟩
        obtain ⟨b1, o1, rfl, _, c1⟩ := FA.out k s hs
        obtain ⟨b2, o2, rfl, _, c2⟩ := FB.out k t ht
        replace c1 := (hcell _).trans c1
        replace c2 := (hcell _).trans c2
        have HC := Lib.hid hcell
        have HS := Lib.hid hs
        have HT2 := Lib.hid ht
        clear hcell hs ht
        by_cases hst : s = t
        · subst hst
          go_wp2
          go_quiet (fail)
          go_wp2
          have hb2 := below_drewN hbl nq
          go_roundg (gk - 1)
          case measure => omega
          case rel =>
            refine ⟨k + 1, by omega, by go_num, ?_, hb2, fun p => HC.out p⟩
            unfold Hid
            rw [List.take_add_one, List.take_add_one, HS.out, HT2.out, HT.out]
        · have e1 : ¬ s.toNat = t.toNat := fun e => hst (UInt8.toNat_inj.1 e)
          go_wp2
          go_quiet (fail)
          go_wp2
          have hb2 := below_drewN hbl nq
          go_ret
          refine ⟨ret_bool ?_, hb2⟩
          refine (decide_eq_false fun e => hst ?_).symm
          have h1 := HS.out; have h2 := HT2.out
          rw [e, h2] at h1
          exact (Option.some.inj h1).symm
      · have hk' : n ≤ k := by omega
        have HC := Lib.hid hcell
        clear hcell
        go_wp2
        go_ret
        refine ⟨ret_bool ?_, hbl⟩
        have h1 := HT.out
        rw [List.take_of_length_le (by rw [HN.out]; exact hk'), List.take_of_length_le (by rw [HM.out]; exact hk')] at h1
        exact (decide_eq_true h1).symm
  · go_enter Try.func14, Try.ntmps14
    go_wp2
    go_ret
    refine ⟨ret_bool ?_, Below.refl _ _⟩
    refine (decide_eq_false fun e => hnm ?_).symm
    rw [← HN.out, ← HM.out, e]
end Go.Proofs.Ytggnkpblfmjbcaa
