/-
  Plain: more parses of styled words; faults of an accent alone; a text that was escaped. No condition.
-/
import Derived.Test.YtkfffoolpdilnaaSS
namespace Go.Bd
theorem run_signtext {c : UInt8} {k : Nat} {s : Bs} {st : Pst} {i : Nat} (hck : (c = 42 ∧ k = 1) ∨ (c = 95 ∧ k = 2)) (hI : Inv st i) (hi : i < s.length) (hc : s.getD i 0 = c) (hl : lastK k st.fs = 0)
    (hp : (0 < i ∧ solid (s.getD (i - 1) 0) = true) ∨ s.length ≤ i + 1 ∨ blank (s.getD (i + 1) 0) = true) : R s i st = R s (i + 1) (st.write [c]) := by
  rw [R_step hI hi]
  rcases hck with ⟨rfl, rfl⟩ | ⟨rfl, rfl⟩
  · rw [step_star st hi hc, mark_text hc hl hp]
  · rw [step_bar st hi hc, mark_text hc hl hp]
theorem lastK_write (st : Pst) (k : Nat) (s : Bs) : lastK k (st.write s).fs = lastK k st.fs := by
  unfold Pst.write Pst.top
  cases st.fs with
  | nil => rfl
  | cons f r => simp only [onTop, lastK]
theorem end_first (s : Bs) : (Pst.first.write s).drop 0 = ⟨[⟨⟨[], s⟩, 0, [], 0⟩], []⟩ := by
  simp [Pst.write, Pst.top, onTop, Pst.first, Rw.write, Rw.none, Pst.drop, Pst.dropN]
theorem lastK_first (k : Nat) (s : Bs) : lastK k (Pst.first.write s).fs = 0 := by rw [lastK_write]; rfl
/-- a text all of which is text -/
def AllText (s : Bs) : Prop := endP s = ⟨[⟨⟨[], s⟩, 0, [], 0⟩], []⟩
theorem small_last {w : Bs} (hw : small w = true) (hn : w ≠ []) : solid (w.getD (w.length - 1) 0) = true := (small_get hw (by have := List.length_pos_iff.2 hn; omega)).2.1
theorem text_behind {w : Bs} (hw : small w = true) (hn : w ≠ []) : AllText (120 :: 42 :: (w ++ [42])) := by
  have hl := List.length_pos_iff.2 hn
  unfold AllText
  rw [endP_eq, R_plain (s := 120 :: 42 :: (w ++ [42])) (i := 0) (pre := []) (w := [120]) (suf := 42 :: (w ++ [42])) Inv.first rfl rfl (by decide)]
  have h1 := (Inv.first.write [120])
  rw [run_signtext (s := 120 :: 42 :: (w ++ [42])) (c := 42) (k := 1) (.inl ⟨rfl, rfl⟩) h1 (by simp; try omega) rfl (lastK_first 1 _) (.inl ⟨by simp, (rfl : solid 120 = true)⟩), write_write]
  have h2 := (Inv.first.write ([120] ++ [42]))
  rw [R_plain (s := 120 :: 42 :: (w ++ [42])) (i := 0 + [(120 : UInt8)].length + 1) (pre := [120, 42]) (w := w) (suf := [42]) (h2.more (by simp)) rfl rfl (small_plain hw), write_write]
  have h3 := (Inv.first.write ([120] ++ [42] ++ w))
  have e : (120 :: 42 :: (w ++ [42])).getD (0 + [(120 : UInt8)].length + 1 + w.length) 0 = 42 := by
    have := at_mid (120 :: 42 :: w) [] 42
    have e : 0 + [(120 : UInt8)].length + 1 + w.length = (120 :: 42 :: w : Bs).length := by simp; omega
    rw [e]; exact this
  have e2 : (120 :: 42 :: (w ++ [42])).getD (0 + [(120 : UInt8)].length + 1 + w.length - 1) 0 = w.getD (w.length - 1) 0 := by
    have e : 0 + [(120 : UInt8)].length + 1 + w.length - 1 = (w.length - 1) + 1 + 1 := by simp; omega
    rw [e]
    show (w ++ [42]).getD (w.length - 1) 0 = _
    exact getD_app_left (by omega)
  rw [run_signtext (c := 42) (k := 1) (.inl ⟨rfl, rfl⟩) (h3.more (by simp; omega)) (by simp; try omega) e (lastK_first 1 _) (.inl ⟨by simp; try omega, by rw [e2]; exact small_last hw hn⟩), write_write, R_end (by simp; try omega), end_first]
  simp
theorem text_blank {w : Bs} (hw : small w = true) : AllText (42 :: 32 :: (w ++ [32, 42])) := by
  have hwp : (32 :: (w ++ [32])).all plainC = true := by
    rw [List.all_cons, List.all_append, small_plain hw]; decide
  unfold AllText
  rw [endP_eq, run_signtext (s := 42 :: 32 :: (w ++ [32, 42])) (c := 42) (k := 1) (.inl ⟨rfl, rfl⟩) Inv.first (by simp) rfl rfl (.inr (.inr (rfl : blank 32 = true)))]
  have h1 := (Inv.first.write [42])
  rw [R_plain (s := 42 :: 32 :: (w ++ [32, 42])) (i := 0 + 1) (pre := [42]) (w := 32 :: (w ++ [32])) (suf := [42]) (h1.more (by simp)) (by simp) rfl hwp, write_write]
  have h2 := (Inv.first.write ([42] ++ 32 :: (w ++ [32])))
  have e : (42 :: 32 :: (w ++ [32, 42])).getD (0 + 1 + (32 :: (w ++ [32])).length) 0 = 42 := by
    have := at_mid (42 :: 32 :: (w ++ [32])) [] 42
    have e : 0 + 1 + (32 :: (w ++ [32])).length = (42 :: 32 :: (w ++ [32]) : Bs).length := by simp; omega
    rw [e, ← this]; simp
  rw [run_signtext (c := 42) (k := 1) (.inl ⟨rfl, rfl⟩) (h2.more (by simp; omega)) (by simp; try omega) e (lastK_first 1 _) (.inr (.inl (by simp; try omega))), write_write, R_end (by simp; try omega), end_first]
  simp
theorem text_between {w : Bs} (hw : small w = true) (hn : w ≠ []) : AllText (w ++ 95 :: (w ++ 95 :: w)) := by
  have hl := List.length_pos_iff.2 hn
  unfold AllText
  rw [endP_eq, R_plain (s := w ++ 95 :: (w ++ 95 :: w)) (i := 0) (pre := []) (w := w) (suf := 95 :: (w ++ 95 :: w)) Inv.first rfl rfl (small_plain hw)]
  have h1 := (Inv.first.write w)
  have e : (w ++ 95 :: (w ++ 95 :: w)).getD (0 + w.length) 0 = 95 := by rw [Nat.zero_add]; exact at_mid _ _ _
  have e1 : (w ++ 95 :: (w ++ 95 :: w)).getD (0 + w.length - 1) 0 = w.getD (w.length - 1) 0 := by rw [Nat.zero_add]; exact getD_app_left (by omega)
  rw [run_signtext (c := 95) (k := 2) (.inr ⟨rfl, rfl⟩) h1 (by simp; try omega) e (lastK_first 2 _) (.inl ⟨by omega, by rw [e1]; exact small_last hw hn⟩), write_write]
  have h2 := (Inv.first.write (w ++ [95]))
  rw [R_plain (s := w ++ 95 :: (w ++ 95 :: w)) (i := 0 + w.length + 1) (pre := w ++ [95]) (w := w) (suf := 95 :: w) (h2.more (by simp)) (by simp) (by simp) (small_plain hw), write_write]
  have h3 := (Inv.first.write (w ++ [95] ++ w))
  have e : (w ++ 95 :: (w ++ 95 :: w)).getD (0 + w.length + 1 + w.length) 0 = 95 := by
    have := at_mid (w ++ 95 :: w) w 95
    have e : 0 + w.length + 1 + w.length = (w ++ 95 :: w : Bs).length := by simp; omega
    rw [e, ← this]; simp
  have e2 : (w ++ 95 :: (w ++ 95 :: w)).getD (0 + w.length + 1 + w.length - 1) 0 = w.getD (w.length - 1) 0 := by
    rw [getD_app_right (by omega), show 0 + w.length + 1 + w.length - 1 - w.length = (w.length - 1) + 1 by omega]
    show (w ++ 95 :: w).getD (w.length - 1) 0 = _
    exact getD_app_left (by omega)
  rw [run_signtext (c := 95) (k := 2) (.inr ⟨rfl, rfl⟩) (h3.more (by simp; try omega)) (by simp; try omega) e (lastK_first 2 _) (.inl ⟨by omega, by rw [e2]; exact small_last hw hn⟩), write_write]
  have h4 := (Inv.first.write (w ++ [95] ++ w ++ [95]))
  rw [R_plain (s := w ++ 95 :: (w ++ 95 :: w)) (i := 0 + w.length + 1 + w.length + 1) (pre := w ++ 95 :: (w ++ [95])) (w := w) (suf := []) (h4.more (by simp; omega)) (by simp) (by simp; omega) (small_plain hw), write_write, R_end (by simp; try omega), end_first]
  simp
/-- a note of two styled words -/
theorem end_note {w : Bs} (hw : small w = true) (hn : w ≠ []) : endP (94 :: 91 :: 42 :: (w ++ 42 :: 32 :: 95 :: (w ++ [95, 93]))) = ⟨[⟨⟨[⟨6, [], [], [], [⟨1, [], [], [], [txt w]⟩, txt [32], ⟨2, [], [], [], [txt w]⟩]⟩], []⟩, 0, [], 0⟩], []⟩ := by
  have hl := List.length_pos_iff.2 hn
  obtain ⟨s, hs⟩ : ∃ s : Bs, s = 94 :: 91 :: 42 :: (w ++ 42 :: 32 :: 95 :: (w ++ [95, 93])) := ⟨_, rfl⟩
  have hsl : s.length = w.length + w.length + 8 := by rw [hs]; simp; omega
  rw [← hs, endP_eq, R_step Inv.first (by omega), step_note _ (by omega) (by rw [hs]; rfl) (by rw [hs]; rfl) rfl]
  have hI : Inv (Pst.first.begin 6 0 [94, 91]) 2 := Inv.first.begin rfl 6 0 [94, 91] (by simp)
  show (R s 2 (Pst.first.begin 6 0 [94, 91])).drop 0 = _
  rw [run_styled (s := s) (i := 2) (c := 42) (k := 1) (w := w) (pre := [94, 91]) (suf := 32 :: 95 :: (w ++ [95, 93])) (.inl ⟨rfl, rfl⟩) hw hn (by rw [hs]; simp) rfl hI rfl rfl (by rw [hs]; exact fun h => absurd h.2 (show ¬ solid 91 = true by decide)) (.inr (by rfl))]
  have hI1 := (hI.top (n := 1) (g := (·.add ⟨1, [], [], [], [txt w]⟩)) (fun r => by have := wtR_add r ⟨1, [], [], [], [txt w]⟩; simpa [wtS] using this))
  have g1 : s.getD (2 + (w.length + 2)) 0 = 32 := by
    have := at_mid (94 :: 91 :: 42 :: (w ++ [42])) (95 :: (w ++ [95, 93])) 32
    have e : 2 + (w.length + 2) = (94 :: 91 :: 42 :: (w ++ [42]) : Bs).length := by simp; omega
    rw [hs, e, ← this]; simp
  rw [R_plain (s := s) (i := 2 + (w.length + 2)) (pre := 94 :: 91 :: 42 :: (w ++ [42])) (w := [32]) (suf := 95 :: (w ++ [95, 93])) (hI1.more (by omega)) (by rw [hs]; simp) (by simp; omega) (by decide)]
  have hI2 := hI1.write [32]
  have g2 : s.getD (2 + (w.length + 2) + [(32 : UInt8)].length - 1) 0 = 32 := g1
  rw [run_styled (s := s) (i := 2 + (w.length + 2) + [(32 : UInt8)].length) (c := 95) (k := 2) (w := w) (pre := 94 :: 91 :: 42 :: (w ++ [42, 32])) (suf := [93]) (.inr ⟨rfl, rfl⟩) hw hn (by rw [hs]; simp) (by simp; omega) (hI2.more (by simp only [List.length_cons, List.length_nil]; omega)) (by rw [lastK_write]; rfl) rfl (by rw [g2]; exact fun h => absurd h.2 (show ¬ solid 32 = true by decide)) (.inr (by decide))]
  have hI3 := (hI2.top (n := 1) (g := (·.add ⟨2, [], [], [], [txt w]⟩)) (fun r => by have := wtR_add r ⟨2, [], [], [], [txt w]⟩; simpa [wtS] using this))
  have g3 : s.getD (2 + (w.length + 2) + [(32 : UInt8)].length + (w.length + 2)) 0 = 93 := by
    have := at_mid (94 :: 91 :: 42 :: (w ++ 42 :: 32 :: 95 :: (w ++ [95]))) [] 93
    have e : 2 + (w.length + 2) + [(32 : UInt8)].length + (w.length + 2) = (94 :: 91 :: 42 :: (w ++ 42 :: 32 :: 95 :: (w ++ [95])) : Bs).length := by simp; omega
    rw [hs, e, ← this]; simp
  have hst : ((((Pst.first.begin 6 0 [94, 91]).top (·.add ⟨1, [], [], [], [txt w]⟩)).write [32]).top (·.add ⟨2, [], [], [], [txt w]⟩)) = ⟨[⟨⟨[⟨1, [], [], [], [txt w]⟩, txt [32], ⟨2, [], [], [], [txt w]⟩], []⟩, 6, [94, 91], 0⟩, ⟨Rw.none, 0, [], 0⟩], []⟩ := by
    simp [Pst.first, Pst.begin, Pst.top, Pst.write, onTop, Rw.add, Rw.write, Rw.flush, Rw.none]
  have hf := fin_top (f := ⟨⟨[⟨1, [], [], [], [txt w]⟩, txt [32], ⟨2, [], [], [], [txt w]⟩], []⟩, 6, [94, 91], 0⟩) (r := [⟨Rw.none, 0, [], 0⟩]) (fa := []) (by simp)
  have hk6 : lastK 6 (Pst.mk [⟨⟨[⟨1, [], [], [], [txt w]⟩, txt [32], ⟨2, [], [], [], [txt w]⟩], []⟩, 6, [94, 91], 0⟩, ⟨Rw.none, 0, [], 0⟩] []).fs = 1 := rfl
  rw [hst] at hI3 ⊢
  simp only [List.length_cons, List.length_nil] at hf
  generalize hst2 : Pst.mk [⟨⟨[⟨1, [], [], [], [txt w]⟩, txt [32], ⟨2, [], [], [], [txt w]⟩], []⟩, 6, [94, 91], 0⟩, ⟨Rw.none, 0, [], 0⟩] [] = st2 at hI3 hf hk6 ⊢
  rw [R_step (hI3.more (by simp only [List.length_cons, List.length_nil]; omega)) (by simp only [List.length_cons, List.length_nil]; omega), step_shut st2 (by simp only [List.length_cons, List.length_nil]; omega) g3 (by rw [hk6]; omega), R_end (by simp only [List.length_cons, List.length_nil]; omega), hk6]
  simp only
  rw [show (1 : Nat) = 0 + 1 from rfl, hf]
  rfl
end Go.Bd
