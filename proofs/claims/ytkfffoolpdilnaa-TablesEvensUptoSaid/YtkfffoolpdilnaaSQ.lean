/-
  Plain: how much a parse holds, at most. No condition.
-/
import Derived.Test.YtkfffoolpdilnaaSP
import Derived.Lib.IndexMore
namespace Go.Bd
def wtS (x : Sp) : Nat := if x.kind = 0 then max 1 x.text.length else 1
def wtL (l : List Sp) : Nat := (l.map wtS).sum
def wtR (r : Rw) : Nat := wtL r.sp + r.tx.length
def wtF (f : Fr) : Nat := wtR f.row + f.sign.length
def wtFs (l : List Fr) : Nat := (l.map wtF).sum
theorem wtS_pos (x : Sp) : 1 ≤ wtS x := by unfold wtS; split <;> omega
theorem wtL_len : ∀ l : List Sp, l.length ≤ wtL l
  | [] => Nat.zero_le _
  | x :: l => by
    have := wtL_len l
    have := wtS_pos x
    simp only [wtL, List.map_cons, List.sum_cons, List.length_cons] at *
    omega
theorem wtL_app (a b : List Sp) : wtL (a ++ b) = wtL a + wtL b := by simp [wtL]
theorem wtL_one (x : Sp) : wtL [x] = wtS x := by simp [wtL]
theorem wtR_write (r : Rw) (s : Bs) : wtR (r.write s) = wtR r + s.length := by simp [wtR, Rw.write]; omega
theorem wtR_flush (r : Rw) : wtR r.flush = wtR r := by
  unfold Rw.flush
  split
  · rename_i h; simp [wtR, h]
  · rename_i h
    have : 1 ≤ r.tx.length := List.length_pos_iff.2 h
    simp only [wtR, wtL_app, wtL_one, wtS, txt, if_true, List.length_nil]
    omega
theorem wtL_flush (r : Rw) : wtL r.flush.sp = wtR r := by
  have := wtR_flush r
  have h0 : r.flush.tx = [] := by unfold Rw.flush; split <;> rfl
  rw [wtR, h0] at this
  simpa using this
theorem wtR_add (r : Rw) (x : Sp) : wtR (r.add x) ≤ wtR r + wtS x := by
  unfold Rw.add
  split
  · rename_i h
    rw [wtR_write, wtS, if_pos h]; omega
  · simp only [wtR, wtL_app, wtL_one, List.length_nil]
    rw [wtL_flush, wtR]; omega
theorem wtR_adds : ∀ (l : List Sp) (r : Rw), wtR (l.foldl Rw.add r) ≤ wtR r + wtL l
  | [], r => by simp [wtL]
  | x :: l, r => by
    have h1 := wtR_adds l (r.add x)
    have h2 := wtR_add r x
    simp only [List.foldl_cons, wtL, List.map_cons, List.sum_cons] at *
    omega
theorem wtR_spill (f : Fr) (r : Rw) : wtR (spill f r) ≤ wtR r + wtF f := by
  have := wtR_adds f.row.sp (r.write f.sign)
  rw [wtR_write] at this
  rw [spill, wtR_write, wtF, show wtR f.row = wtL f.row.sp + f.row.tx.length from rfl]
  omega
theorem wtFs_cons (f : Fr) (l : List Fr) : wtFs (f :: l) = wtF f + wtFs l := by simp [wtFs]
theorem onTop_length (g : Rw → Rw) (l : List Fr) : (onTop g l).length = l.length := by cases l <;> rfl
theorem wt_onTop {g : Rw → Rw} {n : Nat} (h : ∀ r, wtR (g r) ≤ wtR r + n) (l : List Fr) : wtFs (onTop g l) ≤ wtFs l + n := by
  cases l with
  | nil => simp [onTop]
  | cons f r =>
    have := h f.row
    simp only [onTop, wtFs_cons, wtF]
    omega
/-- what a state holds behind i bytes -/
def Inv (st : Pst) (i : Nat) : Prop := wtFs st.fs ≤ i ∧ st.faults.length + st.fs.length ≤ i + 1 ∧ 1 ≤ st.fs.length ∧ st.fs.length ≤ 17
theorem Inv.more {st : Pst} {i j : Nat} (h : Inv st i) (hj : i ≤ j) : Inv st j := by unfold Inv at *; omega
theorem Inv.first : Inv Pst.first 0 := by simp [Inv, Pst.first, wtFs, wtF, wtR, wtL, Rw.none]
theorem Inv.top {st : Pst} {i n : Nat} {g : Rw → Rw} (h : Inv st i) (hg : ∀ r, wtR (g r) ≤ wtR r + n) : Inv (st.top g) (i + n) := by
  have := wt_onTop hg st.fs
  unfold Inv Pst.top at *
  simp only [onTop_length]
  omega
theorem Inv.write {st : Pst} {i : Nat} (h : Inv st i) (s : Bs) : Inv (st.write s) (i + s.length) := h.top fun r => by rw [wtR_write]; omega
theorem Inv.tell {st : Pst} {i : Nat} (h : Inv st i) (a f : Nat) : Inv (st.tell a f) (i + 1) := by
  unfold Inv Pst.tell at *
  simp only [List.length_append, List.length_cons, List.length_nil]
  omega
theorem drop1_length {st : Pst} (h : 2 ≤ st.fs.length) : st.drop1.fs.length + 1 = st.fs.length := by
  obtain ⟨fs, fa⟩ := st
  match fs, h with
  | f :: g :: r, _ => simp [Pst.drop1, onTop]
theorem Inv.drop1 {st : Pst} {i : Nat} (h : Inv st i) (h2 : 2 ≤ st.fs.length) : Inv st.drop1 i := by
  obtain ⟨fs, fa⟩ := st
  match fs, h2 with
  | f :: g :: r, _ =>
    have := wt_onTop (wtR_spill f) (g :: r)
    unfold Inv at *
    simp only [Pst.drop1, onTop_length, wtFs_cons, List.length_append, List.length_cons, List.length_nil] at *
    omega
theorem Inv.dropN {i : Nat} : ∀ (n : Nat) {st : Pst}, Inv st i → n + 1 ≤ st.fs.length → Inv (st.dropN n) i ∧ (st.dropN n).fs.length + n = st.fs.length
  | 0, _, h, _ => ⟨h, rfl⟩
  | n + 1, st, h, hl => by
    have h1 := drop1_length (st := st) (by omega)
    obtain ⟨h2, h3⟩ := Inv.dropN n (h.drop1 (by omega)) (by omega)
    refine ⟨h2, ?_⟩
    rw [Pst.dropN]; omega
theorem Inv.drop {st : Pst} {i n : Nat} (h : Inv st i) (hn : n < st.fs.length) : Inv (st.drop n) i ∧ (st.drop n).fs.length = n + 1 := by
  obtain ⟨h1, h2⟩ := Inv.dropN (st.fs.length - 1 - n) h (by omega)
  exact ⟨h1, by rw [Pst.drop]; omega⟩
theorem Inv.fin {st : Pst} {i n : Nat} (h : Inv st i) (h0 : 0 < n) (hn : n < st.fs.length) : Inv (st.fin n) (i + 1) := by
  obtain ⟨h1, h2⟩ := h.drop hn
  unfold Pst.fin
  generalize st.drop n = sd at h1 h2
  obtain ⟨fs, fa⟩ := sd
  match fs, h1, h2 with
  | f :: r, h1, h2 =>
    have ha : ∀ q, wtR (q.add ⟨f.kind, [], [], [], f.row.flush.sp⟩) ≤ wtR q + 1 := fun q => by
      have h3 := wtR_add q ⟨f.kind, [], [], [], f.row.flush.sp⟩
      have : wtS ⟨f.kind, [], [], [], f.row.flush.sp⟩ = 1 := by unfold wtS; split <;> rfl
      omega
    have := wt_onTop ha r
    unfold Inv at *
    simp only [Pst.shut, onTop_length, wtFs_cons, List.length_cons] at *
    omega
theorem lastK_lt (k : Nat) : ∀ (l : List Fr), lastK k l = 0 ∨ lastK k l < l.length
  | [] => .inl rfl
  | f :: r => by
    unfold lastK
    split
    · exact .inl rfl
    · split
      · exact .inr (by simp)
      · rcases lastK_lt k r with h | h
        · exact .inl h
        · exact .inr (by simp only [List.length_cons]; omega)
theorem Inv.begin {st : Pst} {i : Nat} (h : Inv st i) (hr : st.room = true) (k j : Nat) (sign : Bs) (hs : 1 ≤ sign.length) : Inv (st.begin k j sign) (i + sign.length) := by
  unfold Pst.room at hr
  have := of_decide_eq_true hr
  unfold Inv Pst.begin at *
  simp only [wtFs_cons, wtF, wtR, wtL, Rw.none, List.map_nil, List.sum_nil, List.length_nil, List.length_cons]
  omega
theorem nextAt_some {s : Bs} {i n : Nat} {sign : Bs} (hi : i ≤ s.length) (h : nextAt s i sign = some n) : i ≤ n ∧ n + sign.length ≤ s.length := by
  unfold nextAt at h
  split at h
  · cases h
  · rename_i h0
    have h1 := Lib.index_room (s.drop i) sign (by omega)
    rw [List.length_drop] at h1
    cases h
    omega
theorem as_wt {as : Bs → Sp ⊕ Nat} {l : Bs} {x : Sp} (h : as = codeS ∨ as = refS ∨ as = termS) (hx : as l = .inl x) : wtS x = 1 ∧ x.kind ≠ 0 ∧ x.kids = [] ∧ x.kind < 256 := by
  rcases h with rfl | rfl | rfl
  · cases hx; exact ⟨rfl, by simp, rfl, by simp⟩
  · unfold refS at hx
    split at hx
    · cases hx; exact ⟨rfl, by simp, rfl, by simp⟩
    · cases hx
  · unfold termS at hx
    split at hx
    · cases hx; exact ⟨rfl, by simp, rfl, by simp⟩
    · cases hx
theorem Inv.between {st : Pst} {s a b : Bs} {i : Nat} {as : Bs → Sp ⊕ Nat} (h : Inv st i) (has : as = codeS ∨ as = refS ∨ as = termS) (ha : 1 ≤ a.length) (hb : 1 ≤ b.length) (hi : i + a.length ≤ s.length) :
    Inv (st.between s i a b as).1 (st.between s i a b as).2 ∧ i < (st.between s i a b as).2 ∧ (st.between s i a b as).2 ≤ s.length := by
  unfold Pst.between
  split
  · refine ⟨?_, by omega, by omega⟩
    have h1 := (h.write a)
    unfold Inv Pst.tell Pst.write Pst.top at *
    simp only [List.length_append, List.length_cons, List.length_nil, onTop_length] at *
    omega
  · rename_i n hn
    obtain ⟨h1, h2⟩ := nextAt_some hi hn
    split
    · refine ⟨?_, by simp only; omega, by simp only; omega⟩
      have h3 := h.write ((s.drop i).take (n + b.length - i))
      rw [List.length_take, List.length_drop] at h3
      unfold Inv Pst.tell Pst.write Pst.top at *
      simp only [List.length_append, List.length_cons, List.length_nil, onTop_length] at *
      omega
    · rename_i x hx
      have hw := (as_wt has hx).1
      refine ⟨?_, by simp only; omega, by simp only; omega⟩
      exact (h.top (n := 1) (g := (·.add x)) (fun r => by have := wtR_add r x; omega)).more (by simp only; omega)
theorem Inv.tellw {st : Pst} {i : Nat} (h : Inv st i) (s : Bs) (hs : 1 ≤ s.length) (a f : Nat) : Inv ((st.write s).tell a f) (i + s.length) := by
  have h1 := (h.write s)
  unfold Inv Pst.tell Pst.write Pst.top at *
  simp only [List.length_append, List.length_cons, List.length_nil, onTop_length] at *
  omega
theorem Inv.mark {st : Pst} {s : Bs} {i k : Nat} (h : Inv st i) : Inv (st.mark s i k) (i + 1) := by
  unfold Pst.mark
  split
  · rename_i hc
    rcases lastK_lt k st.fs with h0 | h0
    · omega
    · exact h.fin hc.1 h0
  · split
    · exact h.write _
    · split
      · exact h.tellw _ (by simp) _ _
      · exact h.begin (by simp_all) _ _ _ (by simp)
theorem prefix_two {a b : UInt8} {s : Bs} {i : Nat} (h : [a, b].isPrefixOf (s.drop i) = true) : i + 2 ≤ s.length := by
  obtain ⟨t, ht⟩ := List.isPrefixOf_iff_prefix.1 h
  have := congrArg List.length ht
  simp at this
  omega
theorem Inv.step {st : Pst} {s : Bs} {i : Nat} (h : Inv st i) (hi : i < s.length) : Inv (st.step s i).1 (st.step s i).2 ∧ i < (st.step s i).2 ∧ (st.step s i).2 ≤ s.length := by
  unfold Pst.step
  split
  · rename_i hc
    exact ⟨(h.write _).more (by simp), by simp only; omega, by simp only; omega⟩
  split
  · exact h.between (.inl rfl) (by simp) (by simp) (by simp; omega)
  split
  · rename_i hp
    exact h.between (.inr (.inl rfl)) (by simp) (by simp) (prefix_two hp)
  split
  · rename_i hp
    exact h.between (.inr (.inr rfl)) (by simp) (by simp) (prefix_two hp)
  split
  · rename_i hp
    have := prefix_two hp
    refine ⟨?_, by simp only; omega, by simp only; omega⟩
    simp only
    split
    · rename_i hr; exact h.begin hr _ _ _ (by simp)
    · exact h.tellw _ (by simp) _ _
  split
  · rename_i hc
    refine ⟨?_, by simp only; omega, by simp only; omega⟩
    rcases lastK_lt 6 st.fs with h0 | h0
    · omega
    · exact h.fin hc.2 h0
  split
  · exact ⟨h.mark, by simp only; omega, by simp only; omega⟩
  split
  · exact ⟨h.mark, by simp only; omega, by simp only; omega⟩
  · exact ⟨h.write _, by simp only; omega, by simp only; omega⟩
end Go.Bd
