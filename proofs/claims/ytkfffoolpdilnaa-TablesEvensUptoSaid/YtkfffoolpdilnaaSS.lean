/-
  Plain: parses of styled words, of code, of a text that was escaped. No condition.
-/
import Derived.Test.YtkfffoolpdilnaaSR
namespace Go.Bd
def R (s : Bs) (i : Nat) (st : Pst) : Pst := runP s s.length i st
theorem R_step {s : Bs} {i : Nat} {st : Pst} (hI : Inv st i) (hi : i < s.length) : R s i st = R s (st.step s i).2 (st.step s i).1 := run_step hI hi (by omega)
theorem R_end {s : Bs} {i : Nat} {st : Pst} (h : s.length ≤ i) : R s i st = st := run_end st h
theorem R_plain {s pre w suf : Bs} {i : Nat} {st : Pst} (hI : Inv st i) (hs : s = pre ++ (w ++ suf)) (hi : i = pre.length) (hw : w.all plainC = true) : R s i st = R s (i + w.length) (st.write w) := by
  subst hs; subst hi
  unfold R
  rw [run_plain w.length _ pre.length st (by simp; try omega) (fun j h1 h2 => by
    rw [getD_app_right h1, getD_app_left (by omega)]
    exact plain_getD hw (by omega)) (by simp; try omega)]
  rw [List.drop_left' rfl, List.take_left' rfl]
  exact run_fuel _ _ _ _ (hI.write w) (by simp; try omega) (by simp; try omega)
theorem at_mid (pre suf : Bs) (c : UInt8) : (pre ++ c :: suf).getD pre.length 0 = c := by rw [getD_app_right (Nat.le_refl _)]; simp
theorem at_next (pre suf : Bs) (c d : UInt8) : (pre ++ c :: d :: suf).getD (pre.length + 1) 0 = d := by rw [getD_app_right (by omega)]; simp
theorem step_star {s : Bs} {i : Nat} (st : Pst) (hi : i < s.length) (h : s.getD i 0 = 42) : st.step s i = (st.mark s i 1, i + 1) := by
  unfold Pst.step
  rw [if_neg (by rw [h]; simp), if_neg (by rw [h]; decide), if_neg (by rw [pre_ne hi (by rw [h]; decide)]; simp), if_neg (by rw [pre_ne hi (by rw [h]; decide)]; simp), if_neg (by rw [pre_ne hi (by rw [h]; decide)]; simp), if_neg (by rw [h]; simp), if_pos h]
theorem step_bar {s : Bs} {i : Nat} (st : Pst) (hi : i < s.length) (h : s.getD i 0 = 95) : st.step s i = (st.mark s i 2, i + 1) := by
  unfold Pst.step
  rw [if_neg (by rw [h]; simp), if_neg (by rw [h]; decide), if_neg (by rw [pre_ne hi (by rw [h]; decide)]; simp), if_neg (by rw [pre_ne hi (by rw [h]; decide)]; simp), if_neg (by rw [pre_ne hi (by rw [h]; decide)]; simp), if_neg (by rw [h]; simp), if_neg (by rw [h]; decide), if_pos h]
theorem step_code {s : Bs} {i : Nat} (st : Pst) (h : s.getD i 0 = 96) : st.step s i = st.between s i [96] [96] codeS := by
  unfold Pst.step
  rw [if_neg (by rw [h]; simp), if_pos h]
theorem step_note {s : Bs} {i : Nat} (st : Pst) (hi : i < s.length) (h : s.getD i 0 = 94) (hp : [94, 91].isPrefixOf (s.drop i) = true) (hr : st.room = true) : st.step s i = (st.begin 6 i [94, 91], i + 2) := by
  unfold Pst.step
  rw [if_neg (by rw [h]; simp), if_neg (by rw [h]; decide), if_neg (by rw [pre_ne hi (by rw [h]; decide)]; simp), if_neg (by rw [pre_ne hi (by rw [h]; decide)]; simp), if_pos hp, if_pos hr]
theorem step_shut {s : Bs} {i : Nat} (st : Pst) (hi : i < s.length) (h : s.getD i 0 = 93) (hl : 0 < lastK 6 st.fs) : st.step s i = (st.fin (lastK 6 st.fs), i + 1) := by
  unfold Pst.step
  rw [if_neg (by rw [h]; simp), if_neg (by rw [h]; decide), if_neg (by rw [pre_ne hi (by rw [h]; decide)]; simp), if_neg (by rw [pre_ne hi (by rw [h]; decide)]; simp), if_neg (by rw [pre_ne hi (by rw [h]; decide)]; simp), if_pos ⟨h, hl⟩]
theorem mark_open {st : Pst} {s : Bs} {i k : Nat} {c : UInt8} (hc : s.getD i 0 = c) (hl : lastK k st.fs = 0) (hp : ¬ (0 < i ∧ solid (s.getD (i - 1) 0) = true)) (hn : i + 1 < s.length) (hb : blank (s.getD (i + 1) 0) = false) (hr : st.room = true) : st.mark s i k = st.begin k i [c] := by
  unfold Pst.mark
  rw [if_neg (by rw [hl]; simp), if_neg (by rintro (h | h | h); exact hp h; omega; rw [hb] at h; cases h), if_neg (by rw [hr]; simp), hc]
theorem mark_text {st : Pst} {s : Bs} {i k : Nat} {c : UInt8} (hc : s.getD i 0 = c) (hl : lastK k st.fs = 0) (hp : (0 < i ∧ solid (s.getD (i - 1) 0) = true) ∨ s.length ≤ i + 1 ∨ blank (s.getD (i + 1) 0) = true) : st.mark s i k = st.write [c] := by
  unfold Pst.mark
  rw [if_neg (by rw [hl]; simp), if_pos hp, hc]
theorem mark_shut {st : Pst} {s : Bs} {i k n : Nat} (hl : lastK k st.fs = n) (h0 : 0 < n) (ha : atOf st.fs n + 1 ≠ i) (hi : 0 < i) (hb : blank (s.getD (i - 1) 0) = false) (hs : ¬ (i + 1 < s.length ∧ solid (s.getD (i + 1) 0) = true)) : st.mark s i k = st.fin n := by
  unfold Pst.mark
  rw [hl, if_pos ⟨h0, ha, hi, hb, hs⟩]
def small (w : Bs) : Bool := w.all fun c => 97 ≤ c && c ≤ 122
theorem small_get {w : Bs} (h : small w = true) {j : Nat} (hj : j < w.length) : plainC (w.getD j 0) = true ∧ solid (w.getD j 0) = true ∧ blank (w.getD j 0) = false := by
  have h1 : (97 ≤ w.getD j 0 && w.getD j 0 ≤ 122) = true := by
    rw [List.getD_eq_getElem?_getD, List.getElem?_eq_getElem hj]
    exact List.all_eq_true.1 h _ (List.getElem_mem hj)
  generalize w.getD j 0 = c at h1
  have ne : ∀ k : UInt8, (97 ≤ k && k ≤ 122) = false → (c == k) = false := fun k hk => by
    rw [beq_eq_false_iff_ne]
    rintro rfl
    rw [h1] at hk; cases hk
  refine ⟨?_, ?_, ?_⟩
  · simp only [plainC, ne 42 (by decide), ne 95 (by decide), ne 60 (by decide), ne 40 (by decide), ne 94 (by decide), ne 93 (by decide), ne 92 (by decide), ne 96 (by decide)]; rfl
  · unfold solid; rw [h1]; simp
  · have n1 := ne 32 (by decide)
    have n2 := ne 9 (by decide)
    rw [beq_eq_false_iff_ne] at n1 n2
    cases hb : blank c with
    | false => rfl
    | true =>
      rcases (blank_iff c).1 hb with h | h
      · exact absurd (UInt8.toNat_inj.1 (by show c.toNat = 32; omega)) n1
      · exact absurd (UInt8.toNat_inj.1 (by show c.toNat = 9; omega)) n2
theorem small_plain {w : Bs} (h : small w = true) : w.all plainC = true := by
  rw [List.all_eq_true]
  intro c hc
  obtain ⟨j, hj, rfl⟩ := List.mem_iff_getElem.1 hc
  have := (small_get h hj).1
  rwa [List.getD_eq_getElem?_getD, List.getElem?_eq_getElem hj] at this
theorem begin_inv {i k j : Nat} {sign : Bs} (h : Inv Pst.first i) (hs : 1 ≤ sign.length) : Inv (Pst.first.begin k j sign) (i + sign.length) := h.begin rfl k j sign hs
theorem fin_top {f : Fr} {r : List Fr} {fa : List (Nat × Nat)} (_hr : r ≠ []) : Pst.fin ⟨f :: r, fa⟩ r.length = ⟨onTop (·.add ⟨f.kind, [], [], [], f.row.flush.sp⟩) r, fa⟩ := by
  have e : (f :: r).length - 1 - r.length = 0 := by simp
  unfold Pst.fin Pst.drop
  simp only [e]
  rfl
theorem lastK_top {f : Fr} {r : List Fr} (hr : r ≠ []) : lastK f.kind (f :: r) = r.length := by rw [lastK, if_neg hr, if_pos rfl]
theorem lastK_skip {f : Fr} {r : List Fr} {k : Nat} (hk : f.kind ≠ k) : lastK k (f :: r) = lastK k r := by
  rw [lastK]
  split
  · rename_i h; subst h; rfl
  · first | rfl | rw [if_neg hk]
theorem atOf_top (f : Fr) (r : List Fr) : atOf (f :: r) r.length = f.at' := by
  unfold atOf
  rw [List.reverse_cons, List.getElem?_append_right (by simp)]
  simp
theorem write_begin (st : Pst) (k i : Nat) (sign w : Bs) : (st.begin k i sign).write w = ⟨⟨⟨[], w⟩, k, sign, i⟩ :: st.fs, st.faults⟩ := by
  simp [Pst.write, Pst.top, Pst.begin, onTop, Rw.write, Rw.none]
theorem flush_text {w : Bs} (h : w ≠ []) : (Rw.mk [] w).flush = ⟨[txt w], []⟩ := by simp [Rw.flush, h]
/-- a word between two signs of one kind, wherever it stands -/
theorem run_styled {c : UInt8} {k : Nat} {w pre suf s : Bs} {st : Pst} {i : Nat} (hck : (c = 42 ∧ k = 1) ∨ (c = 95 ∧ k = 2)) (hw : small w = true) (hn : w ≠ []) (hs : s = pre ++ c :: (w ++ c :: suf)) (hi : i = pre.length) (hI : Inv st i)
    (hl : lastK k st.fs = 0) (hr : st.room = true) (hp : ¬ (0 < i ∧ solid (s.getD (i - 1) 0) = true)) (hq : suf = [] ∨ solid (suf.headD 0) = false) :
    R s i st = R s (i + (w.length + 2)) (st.top (·.add ⟨k, [], [], [], [txt w]⟩)) := by
  have hwl : 1 ≤ w.length := List.length_pos_iff.2 hn
  have hsl : s.length = i + (w.length + (suf.length + 2)) := by subst hs; subst hi; simp; omega
  have hstep : ∀ (st : Pst) j, j < s.length → s.getD j 0 = c → st.step s j = (st.mark s j k, j + 1) := fun st j hj h => by
    rcases hck with ⟨rfl, rfl⟩ | ⟨rfl, rfl⟩
    · exact step_star st hj h
    · exact step_bar st hj h
  have g0 : s.getD i 0 = c := by subst hs; subst hi; exact at_mid _ _ _
  have gw : ∀ j, j < w.length → s.getD (i + 1 + j) 0 = w.getD j 0 := fun j hj => by
    subst hs; subst hi
    rw [getD_app_right (by omega), show pre.length + 1 + j - pre.length = j + 1 by omega]
    show (w ++ c :: suf).getD j 0 = _
    exact getD_app_left hj
  have gc : s.getD (i + 1 + w.length) 0 = c := by
    subst hs; subst hi
    rw [getD_app_right (by omega), show pre.length + 1 + w.length - pre.length = w.length + 1 by omega]
    exact at_mid w suf c
  have gs : suf ≠ [] → s.getD (i + 1 + w.length + 1) 0 = suf.headD 0 := fun h => by
    subst hs; subst hi
    rw [getD_app_right (by omega), show pre.length + 1 + w.length + 1 - pre.length = (w.length + 1) + 1 by omega]
    show (w ++ c :: suf).getD (w.length + 1) 0 = _
    rw [getD_app_right (by omega), show w.length + 1 - w.length = 0 + 1 by omega]
    show suf.getD 0 0 = _
    cases suf <;> rfl
  have hfs : st.fs ≠ [] := fun h => by have := hI.2.2.1; rw [h] at this; simp at this
  rw [R_step hI (by omega), hstep _ _ (by omega) g0, mark_open g0 hl hp (by omega) (by have := gw 0 hwl; rw [Nat.add_zero] at this; rw [this]; exact (small_get hw hwl).2.2) hr]
  have hI1 : Inv (st.begin k i [c]) (i + 1) := hI.begin hr k i [c] (Nat.le_refl _)
  show R s (i + 1) (st.begin k i [c]) = _
  rw [R_plain (pre := pre ++ [c]) (w := w) (suf := c :: suf) hI1 (by rw [hs]; simp) (by rw [hi]; simp) (small_plain hw)]
  have hI2 := hI1.write w
  rw [R_step hI2 (by omega), hstep _ _ (by omega) gc, write_begin,
    mark_shut (n := st.fs.length) (lastK_top hfs) (by have := hI.2.2.1; omega) (by rw [atOf_top]; simp only; omega) (by omega)
      (by have := gw (w.length - 1) (by omega); rw [show i + 1 + w.length - 1 = i + 1 + (w.length - 1) by omega, this]; exact (small_get hw (by omega)).2.2)
      (fun h => by
        rcases hq with h1 | h1
        · subst h1; simp at hsl; omega
        · by_cases h2 : suf = []
          · subst h2; simp at hsl; omega
          · rw [gs h2, h1] at h; cases h.2), fin_top hfs]
  simp only [flush_text hn]
  show R s (i + 1 + w.length + 1) _ = R s _ _
  rw [show i + 1 + w.length + 1 = i + (w.length + 2) by omega]
  rfl
theorem endP_eq (s : Bs) : endP s = (R s 0 Pst.first).drop 0 := rfl
theorem top_first (x : Sp) (hx : x.kind ≠ 0) : Pst.first.top (·.add x) = ⟨[⟨⟨[x], []⟩, 0, [], 0⟩], []⟩ := by
  simp [Pst.first, Pst.top, onTop, Rw.add, hx, Rw.flush, Rw.none]
/-- a word between two signs -/
theorem end_styled {c : UInt8} {k : Nat} {w : Bs} (hck : (c = 42 ∧ k = 1) ∨ (c = 95 ∧ k = 2)) (hw : small w = true) (hn : w ≠ []) : endP (c :: (w ++ [c])) = ⟨[⟨⟨[⟨k, [], [], [], [txt w]⟩], []⟩, 0, [], 0⟩], []⟩ := by
  have hk : k ≠ 0 := by rcases hck with ⟨_, rfl⟩ | ⟨_, rfl⟩ <;> simp
  rw [endP_eq, run_styled (s := c :: (w ++ [c])) (i := 0) (pre := []) (suf := []) hck hw hn rfl rfl Inv.first rfl rfl (by omega) (.inl rfl), R_end (by simp; try omega), top_first _ hk]
  rfl
/-- .. between two accents, and in general: code -/
theorem next_here {s pre w suf : Bs} {i : Nat} (hs : s = pre ++ (w ++ 96 :: suf)) (hi : i = pre.length) (hw : (96 : UInt8) ∉ w) : nextAt s i [96] = some (i + w.length) := by
  have h : Lib.index (s.drop i) [96] = w.length := by
    subst hs; subst hi
    rw [List.drop_left' rfl]
    refine Lib.index_first (by simp) ?_ (fun j hj => ?_)
    · unfold Lib.occAt; rw [List.drop_left' rfl]; simp
    · have : ((96 : UInt8) == w[j]) = false := by
        rw [beq_eq_false_iff_ne]
        intro e
        exact hw (e ▸ List.getElem_mem hj)
      unfold Lib.occAt
      rw [List.drop_append_of_le_length (by omega), List.drop_eq_getElem_cons hj, List.cons_append, List.isPrefixOf, this]
      rfl
  unfold nextAt
  rw [h, if_neg (by omega)]
  simp
theorem next_nowhere {s : Bs} {i : Nat} (hw : (96 : UInt8) ∉ s.drop i) : nextAt s i [96] = none := by
  have h : Lib.index (s.drop i) [96] = -1 := by
    refine Lib.index_none fun j hj => ?_
    unfold Lib.occAt
    by_cases h1 : j < (s.drop i).length
    · rw [List.drop_eq_getElem_cons h1]
      have : ((96 : UInt8) == (s.drop i)[j]) = false := by
        rw [beq_eq_false_iff_ne]
        intro e
        exact hw (e ▸ List.getElem_mem h1)
      simp only [List.isPrefixOf, this, Bool.false_and]
    · rw [List.drop_eq_nil_of_le (by omega)]; rfl
  unfold nextAt
  rw [h, if_pos (by decide)]
theorem end_code {w : Bs} (hw : (96 : UInt8) ∉ w) : endP (96 :: (w ++ [96])) = ⟨[⟨⟨[⟨3, w, [], [], []⟩], []⟩, 0, [], 0⟩], []⟩ := by
  have hn := next_here (s := 96 :: (w ++ [96])) (pre := [96]) (w := w) (suf := []) (i := 0 + [(96 : UInt8)].length) rfl rfl hw
  rw [endP_eq, R_step Inv.first (by simp), step_code _ rfl]
  unfold Pst.between
  rw [hn]
  simp only [codeS]
  have e : List.take (0 + [(96 : UInt8)].length + w.length - (0 + [(96 : UInt8)].length)) (List.drop (0 + [(96 : UInt8)].length) (96 :: (w ++ [96]))) = w := by
    rw [Nat.add_sub_cancel_left]
    simp
  rw [e, R_end (by simp; try omega), top_first _ (by simp)]
  rfl
end Go.Bd
