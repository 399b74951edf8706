/-
  Plain: spans of any text are sound, and say no more than it. No condition.
-/
import Derived.Test.YtkfffoolpdilnaaSR
namespace Go.Bd
mutual
/-- what a span says -/
def say1 : Sp → Bs
  | ⟨k, t, _, _, kids⟩ => if k = 0 ∨ k = 3 ∨ k = 4 ∨ k = 5 then t else if k = 1 ∨ k = 2 then sayL kids else []
/-- what spans say -/
def sayL : List Sp → Bs
  | [] => []
  | x :: l => say1 x ++ sayL l
end
mutual
/-- is a span sound, so deep? -/
def snd1 : Sp → Nat → Bool
  | ⟨k, t, u, v, kids⟩, d => decide (k ≤ 6) && !(decide (k = 0) && t.isEmpty) &&
      (if k = 1 ∨ k = 2 ∨ k = 6 then t.isEmpty && !decide (d = 16) && sndL kids (d + 1) 1 else kids.isEmpty) &&
      (decide (k = 5) || (u.isEmpty && v.isEmpty)) && !((decide (k = 1) || decide (k = 2)) && kids.isEmpty)
/-- are spans sound, behind one of a kind? -/
def sndL : List Sp → Nat → Nat → Bool
  | [], _, _ => true
  | x :: l, d, p => snd1 x d && !(decide (x.kind = 0) && decide (p = 0)) && sndL l d x.kind
end
/-- the kind of the last one -/
def lastKind (l : List Sp) (p : Nat) : Nat := match l.getLast? with | some x => x.kind | none => p
theorem lastKind_cons (x : Sp) (l : List Sp) (p : Nat) : lastKind (x :: l) p = lastKind l x.kind := by
  cases l with
  | nil => rfl
  | cons y l =>
    simp only [lastKind, List.getLast?_cons_cons]
    cases h : (y :: l).getLast? with
    | none => simp at h
    | some z => rfl
theorem lastKind_snoc (l : List Sp) (x : Sp) (p : Nat) : lastKind (l ++ [x]) p = x.kind := by simp [lastKind]
theorem sndL_snoc : ∀ (l : List Sp) (x : Sp) (d p : Nat), sndL (l ++ [x]) d p = (sndL l d p && (snd1 x d && !(decide (x.kind = 0) && decide (lastKind l p = 0))))
  | [], x, d, p => by simp only [List.nil_append, sndL, lastKind, List.getLast?_nil, Bool.and_true, Bool.true_and]; rfl
  | y :: l, x, d, p => by
    rw [List.cons_append, sndL, sndL, sndL_snoc l x d y.kind, lastKind_cons]
    simp only [Bool.and_assoc]
theorem sayL_app : ∀ (a b : List Sp), sayL (a ++ b) = sayL a ++ sayL b
  | [], b => by simp [sayL]
  | x :: a, b => by rw [List.cons_append, sayL, sayL, sayL_app a b, List.append_assoc]
theorem say_txt (s : Bs) : say1 (txt s) = s := by simp [txt, say1]
/-- what is said by a row -/
def sayR (r : Rw) : Bs := sayL r.sp ++ r.tx
theorem sayR_write (r : Rw) (s : Bs) : sayR (r.write s) = sayR r ++ s := by simp [sayR, Rw.write]
theorem sayR_flush (r : Rw) : sayR r.flush = sayR r := by
  unfold Rw.flush
  split
  · rename_i h; simp [sayR, h]
  · simp [sayR, sayL_app, sayL, say_txt]
theorem flush_tx (r : Rw) : r.flush.tx = [] := by unfold Rw.flush; split <;> rfl
theorem sayL_flush (r : Rw) : sayL r.flush.sp = sayR r := by
  rw [← sayR_flush, sayR, flush_tx, List.append_nil]
theorem say1_text {x : Sp} (h : x.kind = 0) : say1 x = x.text := by obtain ⟨k, t, u, v, ks⟩ := x; simp only at h; subst h; simp [say1]
theorem sayR_add (r : Rw) (x : Sp) : sayR (r.add x) = sayR r ++ say1 x := by
  unfold Rw.add
  split
  · rename_i h; rw [sayR_write, say1_text h]
  · simp [sayR, sayL_app, sayL]
    rw [sayL_flush]; simp [sayR]
theorem sayR_adds : ∀ (l : List Sp) (r : Rw), sayR (l.foldl Rw.add r) = sayR r ++ sayL l
  | [], r => by simp [sayL]
  | x :: l, r => by rw [List.foldl_cons, sayR_adds l, sayR_add, sayL, List.append_assoc]
theorem sayR_spill (f : Fr) (r : Rw) : sayR (spill f r) = sayR r ++ f.sign ++ sayR f.row := by
  rw [spill, sayR_write, sayR_adds, sayR_write]; simp [sayR]
/-- is a row sound, so deep? -/
def rowOk (r : Rw) (d : Nat) : Prop := sndL r.sp d 1 = true ∧ lastKind r.sp 1 ≠ 0
theorem snd_txt {s : Bs} (h : s ≠ []) (d : Nat) : snd1 (txt s) d = true := by
  cases s with
  | nil => exact absurd rfl h
  | cons a s => simp [txt, snd1]
theorem rowOk.none (d : Nat) : rowOk Rw.none d := by simp [rowOk, Rw.none, sndL, lastKind]
theorem rowOk.write {r : Rw} {d : Nat} (h : rowOk r d) (s : Bs) : rowOk (r.write s) d := h
theorem rowOk.flush {r : Rw} {d : Nat} (h : rowOk r d) : sndL r.flush.sp d 1 = true := by
  unfold Rw.flush
  split
  · exact h.1
  · rename_i hn
    simp only
    rw [sndL_snoc, h.1, snd_txt hn]
    simp [h.2]
theorem rowOk.add {r : Rw} {d : Nat} (h : rowOk r d) {x : Sp} (hx : x.kind = 0 ∨ snd1 x d = true) : rowOk (r.add x) d := by
  unfold Rw.add
  split
  · exact h
  · rename_i hk
    have hs : snd1 x d = true := by
      rcases hx with h | h
      · exact absurd h hk
      · exact h
    refine ⟨?_, ?_⟩
    · simp only
      rw [sndL_snoc, h.flush, hs]
      simp [hk]
    · simp only
      rw [lastKind_snoc]; exact hk
mutual
theorem snd1_up : ∀ (x : Sp) (d : Nat), d + 1 ≤ 16 → snd1 x (d + 1) = true → snd1 x d = true
  | ⟨k, t, u, v, kids⟩, d, hd, h => by
    simp only [snd1, Bool.and_eq_true] at h ⊢
    obtain ⟨⟨⟨h1, h2⟩, h3⟩, h4⟩ := h
    refine ⟨⟨⟨h1, ?_⟩, h3⟩, h4⟩
    split
    · rename_i hk
      rw [if_pos hk] at h2
      simp only [Bool.and_eq_true, Bool.not_eq_true', decide_eq_false_iff_not] at h2 ⊢
      obtain ⟨⟨h5, h6⟩, h7⟩ := h2
      exact ⟨⟨h5, by omega⟩, sndL_up kids (d + 1) 1 (by omega) h7⟩
    · rename_i hk
      rw [if_neg hk] at h2
      exact h2
theorem sndL_up : ∀ (l : List Sp) (d p : Nat), d + 1 ≤ 16 → sndL l (d + 1) p = true → sndL l d p = true
  | [], _, _, _, _ => rfl
  | x :: l, d, p, hd, h => by
    simp only [sndL, Bool.and_eq_true] at h ⊢
    exact ⟨⟨snd1_up x d hd h.1.1, h.1.2⟩, sndL_up l d x.kind hd h.2⟩
end
theorem rowOk.adds {d : Nat} : ∀ {l : List Sp} {p : Nat} {r : Rw}, rowOk r d → sndL l d p = true → rowOk (l.foldl Rw.add r) d
  | [], _, _, h, _ => h
  | x :: l, p, r, h, hl => by
    simp only [sndL, Bool.and_eq_true] at hl
    rw [List.foldl_cons]
    exact rowOk.adds (l := l) (h.add (.inr hl.1.1)) hl.2
theorem rowOk.spill {f : Fr} {r : Rw} {d : Nat} (hf : rowOk f.row (d + 1)) (h : rowOk r d) (hd : d + 1 ≤ 16) : rowOk (spill f r) d :=
  ((h.write f.sign).adds (sndL_up _ _ _ hd hf.1)).write f.row.tx
/-- has a row anything? -/
def Rw.has (r : Rw) : Prop := r.sp ≠ [] ∨ r.tx ≠ []
theorem has_write {r : Rw} {s : Bs} (h : r.has ∨ s ≠ []) : (r.write s).has := by
  rcases h with (h | h) | h
  · exact .inl h
  · exact .inr (by simp [Rw.write, h])
  · exact .inr (by simp [Rw.write, h])
theorem has_add {r : Rw} {x : Sp} (h : r.has ∨ x.kind ≠ 0 ∨ x.text ≠ []) : (r.add x).has := by
  unfold Rw.add
  split
  · rename_i hk
    exact has_write (by rcases h with h | h | h; exact .inl h; exact absurd hk h; exact .inr h)
  · exact .inl (by simp)
theorem has_adds : ∀ {l : List Sp} {r : Rw}, r.has → (l.foldl Rw.add r).has
  | [], _, h => h
  | x :: l, r, h => by rw [List.foldl_cons]; exact has_adds (l := l) (has_add (.inl h))
theorem has_spill {f : Fr} {r : Rw} (h : f.sign ≠ []) : (spill f r).has := has_write (.inl (has_adds (has_write (.inr h))))
theorem has_flush {r : Rw} (h : r.has) : r.flush.sp ≠ [] := by
  unfold Rw.flush
  split
  · rename_i ht
    rcases h with h | h
    · exact h
    · exact absurd ht h
  · simp
/-- frames that are sound, the innermost one first: with how much they say -/
def frOk : List Fr → Nat → Prop
  | [], n => n = 0
  | f :: r, n => rowOk f.row r.length ∧ (r ≠ [] → (f.kind = 1 ∨ f.kind = 2 ∨ f.kind = 6) ∧ f.sign ≠ [] ∧ (f.kind ≠ 6 → f.sign.length = 1)) ∧ ∃ m, frOk r m ∧ n = (sayR f.row).length + f.sign.length + m
structure Snd (st : Pst) (i : Nat) : Prop where
  n1 : 1 ≤ st.fs.length
  n17 : st.fs.length ≤ 17
  fr : ∃ n, frOk st.fs n ∧ n ≤ i
  top : ∀ f r, st.fs = f :: r → r ≠ [] → f.kind ≠ 6 → f.at' + 1 = i ∨ f.row.has
  fa : ∀ p ∈ st.faults, p.2 = 7 ∨ p.2 = 8 ∨ p.2 = 10
theorem Snd.first : Snd Pst.first 0 := by
  refine ⟨by simp [Pst.first], by simp [Pst.first], ⟨0, ?_, Nat.le_refl _⟩, ?_, ?_⟩
  · exact ⟨rowOk.none 0, fun h => absurd rfl h, 0, rfl, rfl⟩
  · intro f r h hr; cases h; exact absurd rfl hr
  · intro p hp; cases hp
theorem Snd.tell {st : Pst} {i : Nat} (h : Snd st i) (a f : Nat) (hf : f = 7 ∨ f = 8 ∨ f = 10) : Snd (st.tell a f) i := by
  refine ⟨h.n1, h.n17, h.fr, h.top, fun p hp => ?_⟩
  rcases List.mem_append.1 hp with hp | hp
  · exact h.fa p hp
  · simp at hp; subst hp; exact hf
theorem frOk_top {f : Fr} {r : List Fr} {n m : Nat} {row : Rw} (h : frOk (f :: r) n) (hr : rowOk row r.length) (hm : (sayR row).length = (sayR f.row).length + m) : frOk ({ f with row := row } :: r) (n + m) := by
  obtain ⟨_, h2, k, h3, rfl⟩ := h
  refine ⟨hr, h2, k, h3, ?_⟩
  rw [hm]; simp only; omega
theorem Snd.row {st : Pst} {i j m : Nat} {g : Rw → Rw} (h : Snd st i) (hj : i + m ≤ j) (hg : ∀ r d, rowOk r d → rowOk (g r) d) (hs : ∀ r, (sayR (g r)).length ≤ (sayR r).length + m) (hh : ∀ r, (g r).has) : Snd (st.top g) j := by
  obtain ⟨fs, fa⟩ := st
  match fs, h with
  | f :: r, h =>
    obtain ⟨n, h1, h2⟩ := h.fr
    obtain ⟨g1, g2, k, g3, rfl⟩ := h1
    refine ⟨by simp [Pst.top, onTop], by have := h.n17; simpa [Pst.top, onTop] using this, ⟨(sayR (g f.row)).length + f.sign.length + k, ⟨hg _ _ g1, g2, k, g3, rfl⟩, ?_⟩, ?_, h.fa⟩
    · have := hs f.row; omega
    · intro f' r' e hr _
      simp only [Pst.top, onTop, List.cons.injEq] at e
      obtain ⟨rfl, rfl⟩ := e
      exact .inr (hh f.row)
  | [], h => exact absurd h.n1 (by simp)
theorem Snd.write {st : Pst} {i j : Nat} (h : Snd st i) (s : Bs) (hs : s ≠ []) (hj : i + s.length ≤ j) : Snd (st.write s) j :=
  h.row hj (fun _ _ hr => hr.write s) (fun r => by rw [sayR_write]; simp) (fun r => has_write (.inr hs))
theorem Snd.drop1 {st : Pst} {i j : Nat} (h : Snd st i) (h2 : 2 ≤ st.fs.length) (hj : i ≤ j) : Snd st.drop1 j ∧ ∃ f r, st.drop1.fs = f :: r ∧ f.row.has := by
  obtain ⟨fs, fa⟩ := st
  match fs, h2, h with
  | f :: g :: r, _, h =>
    obtain ⟨n, h1, h3⟩ := h.fr
    obtain ⟨g1, g2, k, ⟨g3, g4, m, g5, rfl⟩, rfl⟩ := h1
    have h17 := h.n17
    simp only [List.length_cons] at h17 g1 g2
    have hsg := (g2 (by simp)).2.1
    have hh : (Go.Bd.spill f g.row).has := has_spill hsg
    refine ⟨⟨by simp [Pst.drop1, onTop], by simp [Pst.drop1, onTop]; omega, ⟨(sayR (spill f g.row)).length + g.sign.length + m, ⟨rowOk.spill g1 g3 (by omega), g4, m, g5, rfl⟩, ?_⟩, ?_, ?_⟩, ⟨_, _, rfl, hh⟩⟩
    · rw [sayR_spill]; simp only [List.length_append]; omega
    · intro f' r' e hr _
      simp only [Pst.drop1, onTop, List.cons.injEq] at e
      obtain ⟨rfl, rfl⟩ := e
      exact .inr hh
    · intro p hp
      rcases List.mem_append.1 hp with hp | hp
      · exact h.fa p hp
      · simp at hp; subst hp; exact .inl rfl
theorem Snd.dropN {i : Nat} : ∀ (n : Nat) {st : Pst}, Snd st i → n + 1 ≤ st.fs.length → Snd (st.dropN n) i ∧ (st.dropN n).fs.length + n = st.fs.length ∧ (1 ≤ n → ∃ f r, (st.dropN n).fs = f :: r ∧ f.row.has)
  | 0, _, h, _ => ⟨h, rfl, fun h => by omega⟩
  | n + 1, st, h, hl => by
    have h1 := drop1_length (st := st) (by omega)
    obtain ⟨h4, h5⟩ := h.drop1 (by omega) (Nat.le_refl _)
    obtain ⟨h2, h3, h6⟩ := Snd.dropN n h4 (by omega)
    refine ⟨h2, by rw [Pst.dropN]; omega, fun _ => ?_⟩
    rw [Pst.dropN]
    cases n with
    | zero => exact h5
    | succ n => exact h6 (by omega)
theorem Snd.drop {st : Pst} {i n : Nat} (h : Snd st i) (hn : n < st.fs.length) : Snd (st.drop n) i ∧ (st.drop n).fs.length = n + 1 ∧ (n + 1 < st.fs.length → ∃ f r, (st.drop n).fs = f :: r ∧ f.row.has) := by
  obtain ⟨h1, h2, h3⟩ := Snd.dropN (st.fs.length - 1 - n) h (by omega)
  exact ⟨h1, by rw [Pst.drop]; omega, fun h => h3 (by omega)⟩
/-- a span is closed that has something, or is a note -/
theorem Snd.fin {st : Pst} {i n j : Nat} (h : Snd st i) (h0 : 0 < n) (hn : n < st.fs.length) (hj : i ≤ j) (ht : (n + 1 = st.fs.length → ∀ f r, st.fs = f :: r → f.kind ≠ 6 → f.at' + 1 ≠ i)) : Snd (st.fin n) j := by
  obtain ⟨h1, h2, h3⟩ := h.drop hn
  have hh : ∀ f r, (st.drop n).fs = f :: r → f.kind ≠ 6 → f.row.has := fun f r e hk => by
    by_cases hl : n + 1 < st.fs.length
    · obtain ⟨f', r', e', hf⟩ := h3 hl
      rw [e] at e'; cases e'; exact hf
    · have hd : st.drop n = st := by rw [Pst.drop, show st.fs.length - 1 - n = 0 by omega]; rfl
      rw [hd] at e
      have hr : r ≠ [] := fun hr => by rw [e, hr] at hn; simp at hn; omega
      rcases h.top f r e hr hk with h5 | h5
      · exact absurd h5 (ht (by omega) f r e hk)
      · exact h5
  unfold Pst.fin
  generalize st.drop n = sd at h1 h2 hh
  obtain ⟨fs, fa⟩ := sd
  match fs, h1, h2, hh with
  | f :: g :: r, h1, h2, hh =>
    obtain ⟨m, k1, k2⟩ := h1.fr
    obtain ⟨g1, g2, k, ⟨g3, g4, q, g5, rfl⟩, rfl⟩ := k1
    have h17 := h1.n17
    simp only [List.length_cons] at h17 g1 g2 h2
    obtain ⟨hk, hsg, _⟩ := g2 (by simp)
    have hx : snd1 ⟨f.kind, [], [], [], f.row.flush.sp⟩ r.length = true := by
      have hfl := g1.flush
      simp only [snd1, Bool.and_eq_true]
      refine ⟨⟨⟨⟨by simp; omega, by simp; omega⟩, ?_⟩, by simp⟩, ?_⟩
      · rw [if_pos hk, hfl]; simp; omega
      · by_cases h6 : f.kind = 6
        · simp [h6]
        · have := has_flush (hh f (g :: r) rfl h6)
          simp [this]
    have hsy : (say1 ⟨f.kind, [], [], [], f.row.flush.sp⟩).length ≤ (sayR f.row).length := by
      simp only [say1]
      split
      · simp
      · split
        · rw [sayL_flush]; exact Nat.le_refl _
        · simp
    refine ⟨by simp [Pst.shut, onTop], by simp [Pst.shut, onTop]; omega, ⟨(sayR (g.row.add ⟨f.kind, [], [], [], f.row.flush.sp⟩)).length + g.sign.length + q, ⟨g3.add (.inr hx), g4, q, g5, rfl⟩, ?_⟩, ?_, h1.fa⟩
    · rw [sayR_add, List.length_append]; omega
    · intro f' r' e hr _
      simp only [Pst.shut, onTop, List.cons.injEq] at e
      obtain ⟨rfl, rfl⟩ := e
      exact .inr (has_add (.inr (.inl (by simp only; omega))))
  | [f], h1, h2, hh => simp at h2; omega
  | [], h1, h2, hh => simp at h2
theorem Snd.begin {st : Pst} {i j : Nat} (h : Snd st i) (hr : st.room = true) (k : Nat) (sign : Bs) (hk : k = 1 ∨ k = 2 ∨ k = 6) (hs : sign ≠ []) (hs1 : k ≠ 6 → sign.length = 1) (hj : j = i + sign.length) : Snd (st.begin k i sign) j := by
  unfold Pst.room at hr
  have := of_decide_eq_true hr
  obtain ⟨n, h1, h2⟩ := h.fr
  refine ⟨by simp [Pst.begin], by simp [Pst.begin]; omega, ⟨0 + sign.length + n, ⟨rowOk.none _, fun _ => ⟨hk, hs, hs1⟩, n, h1, by simp [sayR, Rw.none, sayL]⟩, by omega⟩, ?_, h.fa⟩
  intro f r e _ h6
  simp only [Pst.begin, List.cons.injEq] at e
  obtain ⟨rfl, rfl⟩ := e
  simp only at h6 ⊢
  rw [hj, hs1 h6]; exact .inl rfl
theorem atOf_top' (f : Fr) (r : List Fr) : atOf (f :: r) r.length = f.at' := by
  unfold atOf
  rw [List.reverse_cons, List.getElem?_append_right (by simp)]; simp
theorem Snd.mark {st : Pst} {s : Bs} {i k : Nat} (h : Snd st i) (hk : k = 1 ∨ k = 2) : Snd (st.mark s i k) (i + 1) := by
  unfold Pst.mark
  split
  · rename_i hc
    rcases lastK_lt k st.fs with h0 | h0
    · omega
    · refine h.fin hc.1 h0 (by omega) (fun e f r hf _ he => hc.2.1 ?_)
      have : lastK k st.fs = r.length := by rw [hf] at e ⊢; simp at e ⊢; omega
      rw [this, hf, atOf_top']; exact he
  · split
    · exact h.write _ (by simp) (by simp)
    · split
      · exact (h.write (j := i + 1) _ (by simp) (by simp)).tell _ _ (.inl rfl)
      · exact h.begin (by simp_all) k _ (by omega) (by simp) (fun _ => rfl) rfl
theorem as_snd {as : Bs → Sp ⊕ Nat} {l : Bs} {x : Sp} (h : as = codeS ∨ as = refS ∨ as = termS) (hx : as l = .inl x) (hp : ∀ a b c, parseB l = some (a, b, c) → a.length ≤ l.length) : (∀ d, snd1 x d = true) ∧ x.kind ≠ 0 ∧ (say1 x).length ≤ l.length := by
  rcases h with rfl | rfl | rfl
  · cases hx; exact ⟨fun d => by simp [snd1], by simp, by simp [say1]⟩
  · unfold refS at hx
    split at hx
    · cases hx; exact ⟨fun d => by simp [snd1], by simp, by simp [say1]⟩
    · cases hx
  · unfold termS at hx
    split at hx
    · rename_i a b c e
      cases hx; exact ⟨fun d => by simp [snd1], by simp, by simpa [say1] using hp a b c e⟩
    · cases hx
theorem as_fault {as : Bs → Sp ⊕ Nat} {l : Bs} {f : Nat} (h : as = codeS ∨ as = refS ∨ as = termS) (hx : as l = .inr f) : f = 7 ∨ f = 8 ∨ f = 10 := by
  rcases h with rfl | rfl | rfl
  · cases hx
  · unfold refS at hx
    split at hx
    · cases hx
    · cases hx; exact .inr (.inr rfl)
  · unfold termS at hx
    split at hx
    · cases hx
    · cases hx; exact .inr (.inl rfl)
theorem parse_le {l a b c : Bs} (h : parseB l = some (a, b, c)) : a.length ≤ l.length := by
  have h1 := trim_le (l.take (min (first l 59) (first l 62)))
  have h2 : (l.take (min (first l 59) (first l 62))).length ≤ l.length := by rw [List.length_take]; omega
  unfold parseB at h
  split at h
  · cases h
  split at h
  · cases h
  split at h
  · cases h; omega
  split at h
  · cases h
  split at h
  · cases h; omega
  · cases h; omega
theorem Snd.between {st : Pst} {s a b : Bs} {i : Nat} {as : Bs → Sp ⊕ Nat} (h : Snd st i) (has : as = codeS ∨ as = refS ∨ as = termS) (ha : 1 ≤ a.length) (hb : 1 ≤ b.length) (hi : i + a.length ≤ s.length) :
    Snd (st.between s i a b as).1 (st.between s i a b as).2 := by
  have ha0 : a ≠ [] := fun e => by rw [e] at ha; simp at ha
  unfold Pst.between
  split
  · exact (h.write _ ha0 (Nat.le_refl _)).tell _ _ (.inl rfl)
  · rename_i n hn
    obtain ⟨h1, h2⟩ := nextAt_some hi hn
    have hl1 : ((s.drop i).take (n + b.length - i)).length = n + b.length - i := by rw [List.length_take, List.length_drop]; omega
    have hl2 : ((s.drop (i + a.length)).take (n - (i + a.length))).length = n - (i + a.length) := by rw [List.length_take, List.length_drop]; omega
    split
    · rename_i f hf
      refine (h.write (j := n + b.length) _ (fun e => ?_) (by omega)).tell _ _ (as_fault has hf)
      rw [e] at hl1; simp at hl1; omega
    · rename_i x hx
      obtain ⟨p1, p2, p3⟩ := as_snd has hx (fun a b c e => parse_le e)
      exact h.row (m := (say1 x).length) (by rw [hl2] at p3; simp only; omega) (fun r d hr => hr.add (.inr (p1 d))) (fun r => by rw [sayR_add, List.length_append]; exact Nat.le_refl _) (fun r => has_add (.inr (.inl p2)))
theorem Snd.step {st : Pst} {s : Bs} {i : Nat} (h : Snd st i) (hi : i < s.length) : Snd (st.step s i).1 (st.step s i).2 := by
  unfold Pst.step
  split
  · exact h.write _ (by simp) (by simp)
  split
  · exact h.between (.inl rfl) (by simp) (by simp) (by simp; omega)
  split
  · rename_i hp
    exact h.between (.inr (.inl rfl)) (by simp) (by simp) (prefix_two hp)
  split
  · rename_i hp
    exact h.between (.inr (.inr rfl)) (by simp) (by simp) (prefix_two hp)
  split
  · simp only
    split
    · rename_i hr; exact h.begin hr 6 _ (by omega) (by simp) (fun h => absurd rfl h) rfl
    · exact (h.write (j := i + 2) _ (by simp) (by simp)).tell _ _ (.inl rfl)
  split
  · rename_i hc
    rcases lastK_lt 6 st.fs with h0 | h0
    · omega
    · refine h.fin hc.2 h0 (by simp) (fun e f r hf h6 => ?_)
      exfalso
      refine h6 ?_
      rw [hf] at e
      have hl : lastK 6 (f :: r) = r.length := by simp at e; omega
      rw [lastK] at hl
      by_cases h7 : r = []
      · rw [hf, lastK, if_pos h7] at hc
        omega
      · rw [if_neg h7] at hl
        by_cases h8 : f.kind = 6
        · exact h8
        · rw [if_neg h8] at hl
          rcases lastK_lt 6 r with h9 | h9
          · have : 0 < r.length := List.length_pos_iff.2 h7
            omega
          · omega
  split
  · exact h.mark (.inl rfl)
  split
  · exact h.mark (.inr rfl)
  · exact h.write _ (by simp) (by simp)
theorem Snd.run {s : Bs} : ∀ (n i : Nat) (st : Pst), Inv st i → Snd st i → i ≤ s.length → s.length - i ≤ n → Snd (runP s n i st) s.length
  | 0, i, st, _, h, hi, hn => by
    rw [run_end (s := s) st (by omega)]
    have : i = s.length := by omega
    rw [← this]; exact h
  | n + 1, i, st, hI, h, hi, hn => by
    rw [runP]
    split
    · rename_i hlt
      obtain ⟨h3, h4, h5⟩ := hI.step hlt
      exact Snd.run n _ _ h3 (h.step hlt) h5 (by omega)
    · have : i = s.length := by omega
      rw [← this]; exact h
theorem snd_end (s : Bs) : Snd (endP s) s.length := by
  have h := Snd.run (s := s) s.length 0 Pst.first Inv.first Snd.first (Nat.zero_le _) (by omega)
  exact (h.drop h.n1).1
theorem endP_one (s : Bs) : ∃ f, (endP s).fs = [f] := by
  have h := Snd.run (s := s) s.length 0 Pst.first Inv.first Snd.first (Nat.zero_le _) (by omega)
  have h2 := (h.drop h.n1).2.1
  match hq : (endP s).fs with
  | [f] => exact ⟨f, rfl⟩
  | [] => unfold endP at hq; rw [hq] at h2; simp at h2
  | f :: g :: r => unfold endP at hq; rw [hq] at h2; simp at h2
/-- the law -/
theorem sound_spans (s : Bs) : sndL (spansOf s) 0 1 = true := by
  obtain ⟨f, hf⟩ := endP_one s
  obtain ⟨n, h1, _⟩ := (snd_end s).fr
  rw [hf] at h1
  unfold spansOf
  rw [hf]
  exact h1.1.flush
theorem say_spans (s : Bs) : (sayL (spansOf s)).length ≤ s.length := by
  obtain ⟨f, hf⟩ := endP_one s
  obtain ⟨n, h1, h2⟩ := (snd_end s).fr
  rw [hf] at h1
  obtain ⟨_, _, m, _, rfl⟩ := h1
  unfold spansOf
  rw [hf]
  simp only
  rw [sayL_flush]; omega
theorem faults_spans (s : Bs) : ∀ p ∈ faultsAt s, p.2 = 7 ∨ p.2 = 8 ∨ p.2 = 10 := (snd_end s).fa
end Go.Bd
