/-
  Plain laws on terms: what a text tells is told again; signs; keys; long texts. No condition.
-/
import Derived.Test.YtacghogdodcinaaDoorBytes2
namespace Go.Bd
def blanks (u : Bs) : Prop := ∀ c ∈ u, blank c = true
theorem dropL_pad {u : Bs} (hu : blanks u) (l : Bs) : dropL (u ++ l) = dropL l := by
  unfold dropL
  induction u with
  | nil => rfl
  | cons x u ih =>
    rw [List.cons_append, List.dropWhile_cons_of_pos (hu x (List.mem_cons_self ..))]
    exact ih (fun c hc => hu c (List.mem_cons_of_mem _ hc))
theorem dropR_pad {v : Bs} (hv : blanks v) (l : Bs) : dropR (l ++ v) = dropR l := by
  unfold dropR
  rw [List.reverse_append]
  have := dropL_pad (u := v.reverse) (fun c hc => hv c (List.mem_reverse.1 hc)) l.reverse
  unfold dropL at this
  rw [this]
theorem trim_pad {u v : Bs} (hu : blanks u) (hv : blanks v) (l : Bs) : trim (u ++ l ++ v) = trim l := by
  rw [← dropLR, dropR_pad hv, dropLR]
  unfold trim
  rw [dropL_pad hu]
theorem trim_trim (l : Bs) : trim (trim l) = trim l := by
  have h1 : ∀ l : Bs, dropL (dropL l) = dropL l := by
    intro l; unfold dropL
    induction l with
    | nil => rfl
    | cons x l ih =>
      by_cases hx : blank x = true
      · rw [List.dropWhile_cons_of_pos hx]; exact ih
      · rw [List.dropWhile_cons_of_neg hx, List.dropWhile_cons_of_neg hx]
  have h2 : ∀ l : Bs, dropR (dropR l) = dropR l := by
    intro l; unfold dropR; rw [List.reverse_reverse]
    have := h1 l.reverse
    unfold dropL at this
    rw [this]
  have e : trim (trim l) = dropR (dropL (dropL (dropR l))) := by rw [dropLR]; rfl
  rw [e, h1, dropLR]
  show dropR (dropR (dropL l)) = dropR (dropL l)
  rw [h2]
theorem first_fresh {x y : Bs} {c : UInt8} (h : c ∉ x) : first (x ++ c :: y) c.toNat = x.length := by
  induction x with
  | nil => rw [List.nil_append, first_cons, if_pos rfl]; rfl
  | cons z x ih =>
    rw [List.cons_append, first_cons, if_neg (fun e => h (by rw [e]; exact List.mem_cons_self ..)), ih (fun m => h (List.mem_cons_of_mem _ m))]
    rfl
theorem first_not {x : Bs} {c : UInt8} (h : c ∉ x) : first x c.toNat = x.length := by
  induction x with
  | nil => rfl
  | cons z x ih =>
    rw [first_cons, if_neg (fun e => h (by rw [e]; exact List.mem_cons_self ..)), ih (fun m => h (List.mem_cons_of_mem _ m))]
    rfl
/-- no sign in it -/
def clear (l : Bs) : Prop := ∀ c ∈ l, c ∉ signs
theorem partB_clear {l : Bs} (h : partB l = true) : clear l ∧ l ≠ [] := by
  rw [partB_signs] at h
  simp only [Bool.and_eq_true, Bool.not_eq_true', List.any_eq_false] at h
  refine ⟨fun c hc hs => h.2 c hc (by simpa using hs), fun e => by rw [e] at h; simp at h⟩
theorem clear_partB {l : Bs} (h : clear l) (hn : l ≠ []) : partB l = true := by
  rw [partB_signs]
  simp only [Bool.and_eq_true, Bool.not_eq_true', List.any_eq_false]
  exact ⟨by simpa using hn, fun c hc hs => h c hc (by simpa using hs)⟩
theorem clear_blanks {u : Bs} (h : blanks u) : clear u := by
  intro c hc hs
  have hb := h c hc
  simp only [signs, List.mem_cons, List.not_mem_nil, or_false] at hs
  rcases hs with rfl | rfl | rfl | rfl | rfl <;> exact absurd hb (by decide)
theorem clear_app {x y : Bs} (hx : clear x) (hy : clear y) : clear (x ++ y) := by
  intro c hc
  rcases List.mem_append.1 hc with h | h
  · exact hx c h
  · exact hy c h
theorem clear_of_trim {l : Bs} (h : clear (trim l)) : clear l := by
  intro c hc hs
  by_cases hb : blank c = true
  · simp only [signs, List.mem_cons, List.not_mem_nil, or_false] at hs
    rcases hs with rfl | rfl | rfl | rfl | rfl <;> exact absurd hb (by decide)
  · exact h c (mem_trim hc (by simpa using hb)) hs
/-- a text of one part, with blanks around it -/
theorem parseB_make1 {u a v : Bs} (hu : blanks u) (hv : blanks v) (ha : partB a = true) (ht : trim a = a) (hl : (u ++ a ++ v).length ≤ 240) : parseB (u ++ a ++ v) = some (a, [], []) := by
  have hc : clear (u ++ a ++ v) := clear_app (clear_app (clear_blanks hu) (partB_clear ha).1) (clear_blanks hv)
  have f1 := first_not (x := u ++ a ++ v) (c := 59) (fun m => hc _ m (by decide))
  have f2 := first_not (x := u ++ a ++ v) (c := 62) (fun m => hc _ m (by decide))
  rw [e59] at f1; rw [e62] at f2
  rw [parseB_one hl f1 f2, trim_pad hu hv, ht, if_pos ha]
/-- a text of two parts -/
theorem parseB_make2 {u a v u' b v' : Bs} (hu : blanks u) (hv : blanks v) (hu' : blanks u') (hv' : blanks v') (ha : partB a = true) (ht : trim a = a) (hb : partB b = true) (htb : trim b = b)
    (hl : ((u ++ a ++ v) ++ 59 :: (u' ++ b ++ v')).length ≤ 240) : parseB ((u ++ a ++ v) ++ 59 :: (u' ++ b ++ v')) = some (a, b, []) := by
  have hc : clear (u ++ a ++ v) := clear_app (clear_app (clear_blanks hu) (partB_clear ha).1) (clear_blanks hv)
  have f1 := first_fresh (x := u ++ a ++ v) (y := u' ++ b ++ v') (c := 59) (fun m => hc _ m (by decide))
  rw [e59] at f1
  have hx : ((u ++ a ++ v) ++ 59 :: (u' ++ b ++ v')).drop ((u ++ a ++ v).length + 1) = u' ++ b ++ v' := by
    rw [← List.drop_drop, List.drop_left]; rfl
  rw [parseB_sub hl (by rw [f1]; simp), f1, two, List.take_left, hx, trim_pad hu hv, ht, trim_pad hu' hv', htb, ha, hb]
  rfl
theorem parseB_make3 {u a v u' b v' : Bs} (hu : blanks u) (hv : blanks v) (hu' : blanks u') (hv' : blanks v') (ha : partB a = true) (ht : trim a = a) (hb : partB b = true) (htb : trim b = b)
    (hl : ((u ++ a ++ v) ++ 62 :: (u' ++ b ++ v')).length ≤ 240) : parseB ((u ++ a ++ v) ++ 62 :: (u' ++ b ++ v')) = some (a, [], b) := by
  have hc : clear (u ++ a ++ v) := clear_app (clear_app (clear_blanks hu) (partB_clear ha).1) (clear_blanks hv)
  have hc' : clear (u' ++ b ++ v') := clear_app (clear_app (clear_blanks hu') (partB_clear hb).1) (clear_blanks hv')
  have f0 := first_not (x := (u ++ a ++ v) ++ 62 :: (u' ++ b ++ v')) (c := 59) (fun m => by
    rcases List.mem_append.1 m with m | m
    · exact hc _ m (by decide)
    · rcases List.mem_cons.1 m with e | m
      · exact absurd e (by decide)
      · exact hc' _ m (by decide))
  have f1 := first_fresh (x := u ++ a ++ v) (y := u' ++ b ++ v') (c := 62) (fun m => hc _ m (by decide))
  rw [e59] at f0
  rw [e62] at f1
  have hx : ((u ++ a ++ v) ++ 62 :: (u' ++ b ++ v')).drop ((u ++ a ++ v).length + 1) = u' ++ b ++ v' := by
    rw [← List.drop_drop, List.drop_left]; rfl
  rw [parseB_see hl f0 (by rw [f1]; simp), f1, two, List.take_left, hx, trim_pad hu hv, ht, trim_pad hu' hv', htb, ha, hb]
  rfl
/-- what a text that tells something is like -/
def Told (l a b c : Bs) : Prop :=
  (partB a = true ∧ trim a = a) ∧
  ((b = [] ∧ c = [] ∧ clear l ∧ a.length ≤ l.length) ∨
   (∃ x y, (partB b = true ∧ trim b = b) ∧ c = [] ∧ l = x ++ 59 :: y ∧ clear x ∧ clear y ∧ a.length ≤ x.length ∧ b.length ≤ y.length) ∨
   (∃ x y, (partB c = true ∧ trim c = c) ∧ b = [] ∧ l = x ++ 62 :: y ∧ clear x ∧ clear y ∧ a.length ≤ x.length ∧ c.length ≤ y.length))
theorem split_first {l : Bs} {c : UInt8} (h : first l c.toNat < l.length) : l = l.take (first l c.toNat) ++ c :: l.drop (first l c.toNat + 1) := by
  have := first_mem h
  conv => lhs; rw [← List.take_append_drop (first l c.toNat) l, List.drop_eq_getElem_cons h, this]
theorem parseB_told {l a b c : Bs} (h : parseB l = some (a, b, c)) : Told l a b c ∧ l.length ≤ 240 := by
  have hl : l.length ≤ 240 := by
    rcases Nat.lt_or_ge 240 l.length with hlt | hge
    · rw [parseB_long hlt] at h; cases h
    · exact hge
  refine ⟨?_, hl⟩
  have h1 := first_le l 59
  have h2 := first_le l 62
  by_cases f1 : first l 59 < l.length
  · rw [parseB_sub hl f1] at h
    split at h
    · rename_i ht
      simp only [Option.some.injEq, Prod.mk.injEq] at h
      obtain ⟨rfl, rfl, rfl⟩ := h
      simp only [two, Bool.and_eq_true] at ht
      have e := split_first (l := l) (c := 59) (by rw [e59]; exact f1)
      rw [e59] at e
      exact ⟨⟨ht.1, trim_trim _⟩, .inr (.inl ⟨_, _, ⟨ht.2, trim_trim _⟩, rfl, e, clear_of_trim (partB_clear ht.1).1, clear_of_trim (partB_clear ht.2).1, trim_le _, trim_le _⟩)⟩
    · cases h
  · by_cases f2 : first l 62 < l.length
    · rw [parseB_see hl (by omega) f2] at h
      split at h
      · rename_i ht
        simp only [Option.some.injEq, Prod.mk.injEq] at h
        obtain ⟨rfl, rfl, rfl⟩ := h
        simp only [two, Bool.and_eq_true] at ht
        have e := split_first (l := l) (c := 62) (by rw [e62]; exact f2)
        rw [e62] at e
        exact ⟨⟨ht.1, trim_trim _⟩, .inr (.inr ⟨_, _, ⟨ht.2, trim_trim _⟩, rfl, e, clear_of_trim (partB_clear ht.1).1, clear_of_trim (partB_clear ht.2).1, trim_le _, trim_le _⟩)⟩
      · cases h
    · rw [parseB_one hl (by omega) (by omega)] at h
      split at h
      · rename_i ht
        simp only [Option.some.injEq, Prod.mk.injEq] at h
        obtain ⟨rfl, rfl, rfl⟩ := h
        exact ⟨⟨ht, trim_trim _⟩, .inl ⟨rfl, rfl, clear_of_trim (partB_clear ht).1, trim_le _⟩⟩
      · cases h
theorem no_blanks : blanks [] := fun _ h => absurd h (by simp)
def textL (a b c : Bs) : Bs := a ++ ((if b = [] then [] else 59 :: b) ++ (if c = [] then [] else 62 :: c))
/-- what is told may be told again -/
theorem told_again {l a b c : Bs} (h : parseB l = some (a, b, c)) : parseB (textL a b c) = some (a, b, c) ∧ (textL a b c).length ≤ l.length ∧ a ≠ [] ∧ (b = [] ∨ c = []) ∧ l.length ≤ 240 := by
  obtain ⟨⟨⟨ha, ht⟩, hr⟩, hl⟩ := parseB_told h
  have hn := (partB_clear ha).2
  rcases hr with ⟨rfl, rfl, _, hle⟩ | ⟨x, y, ⟨hb, htb⟩, rfl, rfl, _, _, h1, h2⟩ | ⟨x, y, ⟨hb, htb⟩, rfl, rfl, _, _, h1, h2⟩
  · have e : textL a [] [] = [] ++ a ++ [] := by simp [textL]
    rw [e]
    exact ⟨parseB_make1 no_blanks no_blanks ha ht (by simp; omega), by simpa using hle, hn, .inl rfl, hl⟩
  · have hbn := (partB_clear hb).2
    have e : textL a b [] = ([] ++ a ++ []) ++ 59 :: ([] ++ b ++ []) := by simp [textL, hbn]
    simp only [List.length_append, List.length_cons] at hl
    rw [e]
    exact ⟨parseB_make2 no_blanks no_blanks no_blanks no_blanks ha ht hb htb (by simp; omega), by simp; omega, hn, .inr rfl, by simp; omega⟩
  · have hbn := (partB_clear hb).2
    have e : textL a [] c = ([] ++ a ++ []) ++ 62 :: ([] ++ c ++ []) := by simp [textL, hbn]
    simp only [List.length_append, List.length_cons] at hl
    rw [e]
    exact ⟨parseB_make3 no_blanks no_blanks no_blanks no_blanks ha ht hb htb (by simp; omega), by simp; omega, hn, .inl rfl, by simp; omega⟩
/-- blanks around the sign that cuts -/
def widen (l : Bs) : Bs := l.flatMap fun c => if c = 59 ∨ c = 62 then [32, 9, c, 32] else [c]
theorem widen_clear {l : Bs} (h : clear l) : widen l = l := by
  unfold widen
  induction l with
  | nil => rfl
  | cons x l ih =>
    have hx := h x (List.mem_cons_self ..)
    rw [List.flatMap_cons, ih (fun c hc => h c (List.mem_cons_of_mem _ hc)), if_neg]
    · rfl
    · rintro (e | e) <;> subst e <;> exact hx (by decide)
theorem widen_app (x y : Bs) : widen (x ++ y) = widen x ++ widen y := by unfold widen; rw [List.flatMap_append]
theorem blanks1 : blanks [32] := fun c h => by simp at h; subst h; decide
theorem blanks2 : blanks [9] := fun c h => by simp at h; subst h; decide
theorem blanks3 : blanks [32, 9] := fun c h => by simp at h; rcases h with rfl | rfl <;> decide
/-- what is told with more blanks around its parts -/
theorem told_wide {a b c : Bs} (h : parseB (textL a b c) = some (a, b, c)) (hw : (32 :: widen (textL a b c) ++ [9]).length ≤ 240) : parseB (32 :: widen (textL a b c) ++ [9]) = some (a, b, c) := by
  obtain ⟨⟨⟨ha, ht⟩, hr⟩, _⟩ := parseB_told h
  have hca := (partB_clear ha).1
  rcases hr with ⟨rfl, rfl, _, _⟩ | ⟨x, y, ⟨hb, htb⟩, rfl, _, _, _, _, _⟩ | ⟨x, y, ⟨hb, htb⟩, rfl, _, _, _, _, _⟩
  · have e : 32 :: widen (textL a [] []) ++ [9] = [32] ++ a ++ [9] := by
      have : textL a [] [] = a := by simp [textL]
      rw [this, widen_clear hca]; rfl
    rw [e] at hw ⊢
    exact parseB_make1 blanks1 blanks2 ha ht hw
  · have hcb := (partB_clear hb).1
    have hbn := (partB_clear hb).2
    have e : 32 :: widen (textL a b []) ++ [9] = ([32] ++ a ++ [32, 9]) ++ 59 :: ([32] ++ b ++ [9]) := by
      have e1 : textL a b [] = a ++ ([59] ++ b) := by simp [textL, hbn]
      have e2 : widen [59] = [32, 9, 59, 32] := by decide
      rw [e1, widen_app, widen_app, widen_clear hca, widen_clear hcb, e2]; simp
    rw [e] at hw ⊢
    exact parseB_make2 blanks1 blanks3 blanks1 blanks2 ha ht hb htb hw
  · have hcb := (partB_clear hb).1
    have hbn := (partB_clear hb).2
    have e : 32 :: widen (textL a [] c) ++ [9] = ([32] ++ a ++ [32, 9]) ++ 62 :: ([32] ++ c ++ [9]) := by
      have e1 : textL a [] c = a ++ ([62] ++ c) := by simp [textL, hbn]
      have e2 : widen [62] = [32, 9, 62, 32] := by decide
      rw [e1, widen_app, widen_app, widen_clear hca, widen_clear hcb, e2]; simp
    rw [e] at hw ⊢
    exact parseB_make3 blanks1 blanks3 blanks1 blanks2 ha ht hb htb hw
/-- how many signs -/
def signN (l : Bs) : Nat := (l.filter (signs.contains ·)).length
theorem signN_app (x y : Bs) : signN (x ++ y) = signN x + signN y := by simp [signN]
theorem signN_clear {l : Bs} (h : clear l) : signN l = 0 := by
  unfold signN
  rw [List.filter_eq_nil_iff.2]
  · rfl
  · intro c hc hs; exact h c hc (by simpa using hs)
theorem told_signs {l a b c : Bs} (h : parseB l = some (a, b, c)) : signN l ≤ 1 ∧ ∀ s ∈ l, s ≠ 40 ∧ s ≠ 41 ∧ s ≠ 60 := by
  obtain ⟨⟨⟨ha, ht⟩, hr⟩, _⟩ := parseB_told h
  have hk : ∀ {x : Bs}, clear x → ∀ s ∈ x, s ≠ 40 ∧ s ≠ 41 ∧ s ≠ 60 := fun hx s hs =>
    ⟨fun e => hx s hs (by rw [e]; decide), fun e => hx s hs (by rw [e]; decide), fun e => hx s hs (by rw [e]; decide)⟩
  have hm : ∀ {x y : Bs} {d : UInt8}, clear x → clear y → (d = 59 ∨ d = 62) → ∀ s ∈ x ++ d :: y, s ≠ 40 ∧ s ≠ 41 ∧ s ≠ 60 := by
    intro x y d hx hy hd s hs
    rcases List.mem_append.1 hs with m | m
    · exact hk hx s m
    · rcases List.mem_cons.1 m with e | m
      · subst e; rcases hd with rfl | rfl <;> decide
      · exact hk hy s m
  rcases hr with ⟨_, _, hc, _⟩ | ⟨x, y, _, _, rfl, hx, hy, _, _⟩ | ⟨x, y, _, _, rfl, hx, hy, _, _⟩
  · exact ⟨by rw [signN_clear hc]; omega, hk hc⟩
  · refine ⟨?_, hm hx hy (.inl rfl)⟩
    rw [show x ++ 59 :: y = x ++ ([59] ++ y) from rfl, signN_app, signN_app, signN_clear hx, signN_clear hy]; decide
  · refine ⟨?_, hm hx hy (.inr rfl)⟩
    rw [show x ++ 62 :: y = x ++ ([62] ++ y) from rfl, signN_app, signN_app, signN_clear hx, signN_clear hy]; decide
theorem none_of {l : Bs} (h : ∀ a b c, parseB l ≠ some (a, b, c)) : parseB l = none := by
  cases hp : parseB l with
  | none => rfl
  | some t => obtain ⟨a, b, c⟩ := t; exact absurd hp (h a b c)
/-- a sign twice -/
theorem parseB_twice {a b c : Bs} {s t : UInt8} (hs : s ∈ signs) (ht : t ∈ signs) : parseB (a ++ ([s] ++ (b ++ ([t] ++ c)))) = none := by
  refine none_of fun x y z h => ?_
  have := (told_signs h).1
  have h1 : signN [s] = 1 := by simp [signN, hs]
  have h2 : signN [t] = 1 := by simp [signN, ht]
  simp only [signN_app, h1, h2] at this
  omega
/-- a sign that none has -/
theorem parseB_never {a b : Bs} {s : UInt8} (hs : s = 40 ∨ s = 41 ∨ s = 60) : parseB (a ++ ([s] ++ b)) = none := by
  refine none_of fun x y z h => ?_
  have := (told_signs h).2 s (by simp)
  rcases hs with e | e | e
  · exact this.1 e
  · exact this.2.1 e
  · exact this.2.2 e
/-- letters alone -/
theorem parseB_letters {k : Nat} {x : UInt8} (h1 : 97 ≤ x.toNat) (h2 : x.toNat ≤ 122) :
    parseB (List.replicate k x) = if k = 0 ∨ 240 < k then none else some (List.replicate k x, [], []) := by
  by_cases hk : 240 < k
  · rw [parseB_long (by simpa using hk), if_pos (.inr hk)]
  · have hc : clear (List.replicate k x) := by
      intro c hc hs
      have := List.eq_of_mem_replicate hc
      subst this
      simp only [signs, List.mem_cons, List.not_mem_nil, or_false] at hs
      rcases hs with e | e | e | e | e <;> (rw [e] at h1 h2; revert h1 h2; decide)
    have hb : blank x = false := by
      simp only [blank, Bool.or_eq_false_iff, beq_eq_false_iff_ne]; omega
    have hd : dropL (List.replicate k x) = List.replicate k x := by
      unfold dropL
      cases k with
      | zero => rfl
      | succ k => rw [List.replicate_succ, List.dropWhile_cons_of_neg (by simp [hb])]
    have hr : dropR (List.replicate k x) = List.replicate k x := by
      unfold dropR
      rw [List.reverse_replicate]
      have := hd; unfold dropL at this; rw [this, List.reverse_replicate]
    have ht : trim (List.replicate k x) = List.replicate k x := by unfold trim; rw [hd, hr]
    by_cases h0 : k = 0
    · subst h0; rw [if_pos (.inl rfl)]; exact (by decide : parseB [] = none)
    · rw [if_neg (by omega)]
      have hp : partB (List.replicate k x) = true := clear_partB hc (by simpa using h0)
      have := parseB_make1 (u := []) (v := []) no_blanks no_blanks hp ht (by simp; omega)
      simpa using this
end Go.Bd
