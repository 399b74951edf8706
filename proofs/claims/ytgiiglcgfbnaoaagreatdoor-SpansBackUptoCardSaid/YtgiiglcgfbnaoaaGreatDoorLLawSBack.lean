/-
  The law SpansBack: for every input it answers true, and the input reads as it did: the row, and its card. Its conditions: those of the given row alone.
-/
import Derived.Deep.Slices
import Derived.ChangeArms
import Derived.WideShapes
import Derived.Test.YtgiiglcgfbnaoaaGreatDoorRows
import Derived.Test.YtgiiglcgfbnaoaaGreatDoorChecked
import Derived.Test.YtgiiglcgfbnaoaaGreatDoorK4
set_option linter.unusedSimpArgs false
set_option linter.unusedVariables false
namespace Go.Bd
mutual
def sz1 : Sp → Nat
  | ⟨_, t, u, v, kids⟩ => 1 + t.length + u.length + v.length + szL kids
/-- how much spans have -/
def szL : List Sp → Nat
  | [] => 0
  | x :: l => 1 + sz1 x + szL l
end
mutual
def dp1 : Sp → Nat
  | ⟨_, _, _, _, kids⟩ => 1 + dpL kids
/-- how deep they stand -/
def dpL : List Sp → Nat
  | [] => 0
  | x :: l => max (dp1 x) (dpL l)
end
theorem szL_app : ∀ a b : List Sp, szL (a ++ b) = szL a + szL b
  | [], b => by simp [szL]
  | x :: a, b => by rw [List.cons_append, szL, szL, szL_app a b]; omega
theorem szL_take {l : List Sp} {k : Nat} {x : Sp} (h : l[k]? = some x) : szL (l.take (k + 1)) = szL (l.take k) + (1 + sz1 x) := by
  rw [List.take_add_one, h, szL_app]; simp [szL]
theorem szL_le {l : List Sp} {k : Nat} : szL (l.take k) ≤ szL l := by
  have := szL_app (l.take k) (l.drop k)
  rw [List.take_append_drop] at this
  omega
theorem sz_get {l : List Sp} {k : Nat} {x : Sp} (h : l[k]? = some x) : szL (l.take k) + 1 + sz1 x ≤ szL l := by
  have h1 := szL_take h
  have h2 := szL_le (l := l) (k := k + 1)
  omega
theorem sz1_eq (x : Sp) : sz1 x = 1 + x.text.length + x.sub.length + x.see.length + szL x.kids := by
  obtain ⟨k, t, u, v, ks⟩ := x; simp only [sz1]
theorem szL_len : ∀ l : List Sp, l.length ≤ szL l
  | [] => Nat.zero_le _
  | x :: l => by have := szL_len l; simp only [szL, List.length_cons]; omega
theorem dp1_eq (x : Sp) : dp1 x = 1 + dpL x.kids := by obtain ⟨k, t, u, v, ks⟩ := x; simp only [dp1]
theorem dpL_app : ∀ a b : List Sp, dpL (a ++ b) = max (dpL a) (dpL b)
  | [], b => by simp [dpL]
  | x :: a, b => by rw [List.cons_append, dpL, dpL, dpL_app a b, Nat.max_assoc]
theorem dpL_take {l : List Sp} {k : Nat} {x : Sp} (h : l[k]? = some x) : dpL (l.take (k + 1)) = max (dpL (l.take k)) (dp1 x) := by
  rw [List.take_add_one, h, dpL_app]; simp [dpL]
theorem dpL_le {l : List Sp} {k : Nat} : dpL (l.take k) ≤ dpL l := by
  have := dpL_app (l.take k) (l.drop k)
  rw [List.take_append_drop] at this
  omega
theorem dp_get {l : List Sp} {k : Nat} {x : Sp} (h : l[k]? = some x) : dp1 x ≤ dpL l := by
  have h1 := dpL_take h
  have h2 := dpL_le (l := l) (k := k + 1)
  omega
mutual
theorem dp_sz1 : ∀ x : Sp, dp1 x ≤ sz1 x
  | ⟨_, _, _, _, kids⟩ => by have := dp_szL kids; simp only [dp1, sz1]; omega
/-- not deeper than there are -/
theorem dp_szL : ∀ l : List Sp, dpL l ≤ szL l
  | [] => Nat.le_refl _
  | x :: l => by have := dp_sz1 x; have := dp_szL l; simp only [dpL, szL]; omega
end
end Go.Bd
namespace Go.Proofs.YtgiiglcgfbnaoaaGreatDoor
open Go.RowKit Go.Bd
theorem plain_or_sign (c : UInt8) : c = 42 ∨ c = 95 ∨ c = 96 ∨ c = 60 ∨ c = 40 ∨ c = 94 ∨ c = 93 ∨ c = 92 ∨ plainC c = true := by
  unfold plainC
  by_cases h1 : c = 42; · exact .inl h1
  by_cases h2 : c = 95; · exact .inr (.inl h2)
  by_cases h3 : c = 96; · exact .inr (.inr (.inl h3))
  by_cases h4 : c = 60; · exact .inr (.inr (.inr (.inl h4)))
  by_cases h5 : c = 40; · exact .inr (.inr (.inr (.inr (.inl h5))))
  by_cases h6 : c = 94; · exact .inr (.inr (.inr (.inr (.inr (.inl h6)))))
  by_cases h7 : c = 93; · exact .inr (.inr (.inr (.inr (.inr (.inr (.inl h7))))))
  by_cases h8 : c = 92; · exact .inr (.inr (.inr (.inr (.inr (.inr (.inr (.inl h8)))))))
  refine .inr (.inr (.inr (.inr (.inr (.inr (.inr (.inr ?_)))))))
  simp [h1, h2, h3, h4, h5, h6, h7, h8]
theorem all_snoc {s : ByteArray} {k : Nat} (hk : k < s.size) {p : UInt8 → Bool} (h : (s.data.toList.take k).all p = true) (hp : p s[k] = true) : (s.data.toList.take (k + 1)).all p = true := by
  have hl : k < s.data.toList.length := by simpa using hk
  rw [List.take_add_one, List.all_append, h, List.getElem?_eq_getElem hl]
  have e : s[k] = s.data.toList[k] := rfl
  rw [e] at hp
  simp only [Option.toList_some, List.all_cons, List.all_nil, Bool.and_true, Bool.true_and]
  exact hp
theorem mk_list (s : ByteArray) : (⟨s.data.toList.toArray⟩ : ByteArray) = s := by simp
set_option maxRecDepth 100000 in
set_option maxHeartbeats 4000000 in
theorem spansNone_true (s : ByteArray) (m : Int) (w : World) (hm : w.cell? ⟨0, 0, none⟩ = some (.int .i64 m)) (hs : s.size ≤ 140737488355328) :
    Calls Tryz.prog 5 #[.string s] w fun e w' => e = .returned (.bool true) ∧ Below w.heap.size w w' := by
  have hB : 0 < w.heap.size := World.block_lt_of_cell? w _ hm
  have HM := Lib.hid hm
  have ca := alive_any w m hm
  clear hm
  by_cases hbig : s.size ≤ 20000
  · rcases emptyB s with ⟨z1, z2⟩ | ⟨z1, z2⟩
    all_goals
      go_enter Tryz.func5, Tryz.ntmps5
      go_wp2_with fail
      refine ca.mono ?_
      clear ca
      rintro e w1 ⟨rfl, hb1⟩
      have HB1 := Lib.hid hb1
      have hs1 := hb1.size
      clear hb1
      go_wp2
      go_loopg [3] s.size (fun q i wr => wr = w1 ∧ ∃ k : Nat, k + q = s.size ∧ i = .int .i64 (k : Int) ∧ Hid ((s.data.toList.take k).all plainC = true))
      case atStart => exact ⟨rfl, 0, by omega, rfl, (rfl : (s.data.toList.take 0).all plainC = true)⟩
      case round =>
        obtain ⟨rfl, k, hk, rfl, HP⟩ := hrel
        by_cases hlt : k < s.size
        · rcases plain_or_sign s[k] with h | h | h | h | h | h | h | h | h
          case inr.inr.inr.inr.inr.inr.inr.inr =>
            have HP2 := Lib.hid (all_snoc hlt HP.out h)
            obtain ⟨n1, n2, n3, n4, n5, n6, n7, n8⟩ := plain_ne h
            have q1 := neB (d := 42) (k := 42) rfl n1
            have q2 := neB (d := 95) (k := 95) rfl n2
            have q3 := neB (d := 60) (k := 60) rfl n3
            have q4 := neB (d := 40) (k := 40) rfl n4
            have q5 := neB (d := 94) (k := 94) rfl n5
            have q6 := neB (d := 93) (k := 93) rfl n6
            have q7 := neB (d := 92) (k := 92) rfl n7
            have q8 := neB (d := 96) (k := 96) rfl n8
            clear h n1 n2 n3 n4 n5 n6 n7 n8
            go_wp2
            go_roundg (gk - 1)
            case measure => omega
            case rel => exact ⟨rfl, k + 1, by omega, by go_num, HP2.out⟩
          case inl =>
            have q0 := isB (d := 42) (k := 42) rfl h
            clear h
            go_wp2
            go_ret
            exact ⟨rfl, HB1.out⟩
          case inr.inl =>
            have q0 := neB (c := s[k]) (d := 42) (k := 42) rfl (by rw [h]; decide)
            have q1 := isB (d := 95) (k := 95) rfl h
            clear h
            go_wp2
            go_ret
            exact ⟨rfl, HB1.out⟩
          case inr.inr.inl =>
            have q0 := neB (c := s[k]) (d := 42) (k := 42) rfl (by rw [h]; decide)
            have q1 := neB (c := s[k]) (d := 95) (k := 95) rfl (by rw [h]; decide)
            have q2 := isB (d := 96) (k := 96) rfl h
            clear h
            go_wp2
            go_ret
            exact ⟨rfl, HB1.out⟩
          case inr.inr.inr.inl =>
            have q0 := neB (c := s[k]) (d := 42) (k := 42) rfl (by rw [h]; decide)
            have q1 := neB (c := s[k]) (d := 95) (k := 95) rfl (by rw [h]; decide)
            have q2 := neB (c := s[k]) (d := 96) (k := 96) rfl (by rw [h]; decide)
            have q3 := isB (d := 60) (k := 60) rfl h
            clear h
            go_wp2
            go_ret
            exact ⟨rfl, HB1.out⟩
          case inr.inr.inr.inr.inl =>
            have q0 := neB (c := s[k]) (d := 42) (k := 42) rfl (by rw [h]; decide)
            have q1 := neB (c := s[k]) (d := 95) (k := 95) rfl (by rw [h]; decide)
            have q2 := neB (c := s[k]) (d := 96) (k := 96) rfl (by rw [h]; decide)
            have q3 := neB (c := s[k]) (d := 60) (k := 60) rfl (by rw [h]; decide)
            have q4 := isB (d := 40) (k := 40) rfl h
            clear h
            go_wp2
            go_ret
            exact ⟨rfl, HB1.out⟩
          case inr.inr.inr.inr.inr.inl =>
            have q0 := neB (c := s[k]) (d := 42) (k := 42) rfl (by rw [h]; decide)
            have q1 := neB (c := s[k]) (d := 95) (k := 95) rfl (by rw [h]; decide)
            have q2 := neB (c := s[k]) (d := 96) (k := 96) rfl (by rw [h]; decide)
            have q3 := neB (c := s[k]) (d := 60) (k := 60) rfl (by rw [h]; decide)
            have q4 := neB (c := s[k]) (d := 40) (k := 40) rfl (by rw [h]; decide)
            have q5 := isB (d := 94) (k := 94) rfl h
            clear h
            go_wp2
            go_ret
            exact ⟨rfl, HB1.out⟩
          case inr.inr.inr.inr.inr.inr.inl =>
            have q0 := neB (c := s[k]) (d := 42) (k := 42) rfl (by rw [h]; decide)
            have q1 := neB (c := s[k]) (d := 95) (k := 95) rfl (by rw [h]; decide)
            have q2 := neB (c := s[k]) (d := 96) (k := 96) rfl (by rw [h]; decide)
            have q3 := neB (c := s[k]) (d := 60) (k := 60) rfl (by rw [h]; decide)
            have q4 := neB (c := s[k]) (d := 40) (k := 40) rfl (by rw [h]; decide)
            have q5 := neB (c := s[k]) (d := 94) (k := 94) rfl (by rw [h]; decide)
            have q6 := isB (d := 93) (k := 93) rfl h
            clear h
            go_wp2
            go_ret
            exact ⟨rfl, HB1.out⟩
          case inr.inr.inr.inr.inr.inr.inr.inl =>
            have q0 := neB (c := s[k]) (d := 42) (k := 42) rfl (by rw [h]; decide)
            have q1 := neB (c := s[k]) (d := 95) (k := 95) rfl (by rw [h]; decide)
            have q2 := neB (c := s[k]) (d := 96) (k := 96) rfl (by rw [h]; decide)
            have q3 := neB (c := s[k]) (d := 60) (k := 60) rfl (by rw [h]; decide)
            have q4 := neB (c := s[k]) (d := 40) (k := 40) rfl (by rw [h]; decide)
            have q5 := neB (c := s[k]) (d := 94) (k := 94) rfl (by rw [h]; decide)
            have q6 := neB (c := s[k]) (d := 93) (k := 93) rfl (by rw [h]; decide)
            have q7 := isB (d := 92) (k := 92) rfl h
            clear h
            go_wp2
            go_ret
            exact ⟨rfl, HB1.out⟩
        · obtain rfl : k = s.size := by omega
          have hpl : s.data.toList.all plainC = true := by
            have h := HP.out
            rw [List.take_of_length_le (by simp)] at h
            exact h
          obtain ⟨he, hf⟩ := spans_plain hpl
          have hf2 : faultsOf s.data.toList = [] := (faultsOf_nil _).2 hf
          have hc1 := (HB1.out.cell (p := ⟨0, 0, none⟩) hB).trans HM.out
          first
          | (rw [ByteArray.toList_eq] at z1
             rw [if_pos z1] at he
             have ci := is_any s [] (by omega) hf2 he (.slice none 0 0) wr m (Forest.nil _ _) hc1
             clear he hf hf2 hpl hc1 HP
             rw [← ByteArray.toList_eq] at z1
             go_wp2_with fail
             refine ci.mono ?_
             clear ci
             rintro e w2 ⟨rfl, hb2⟩
             have HB2 := Lib.hid (HB1.out.trans (hb2.mono hs1))
             clear hb2
             go_wp2
             go_ret
             exact ⟨rfl, HB2.out⟩)
          | (have z3 : s.data.toList ≠ [] := by rw [← ByteArray.toList_eq]; exact z1
             rw [if_neg z3] at he
             have cp := parseSpans_any s wr (by omega) m hc1
             have HE := Lib.hid he
             have HF2 := Lib.hid hf2
             have HC1 := Lib.hid hc1
             clear he hf hf2 hpl hc1 HP z3
             go_wp2_with fail
             refine cp.mono ?_
             clear cp
             rintro e w2 ⟨sv, fv, rfl, hb2, hf2, hr2⟩
             obtain ⟨Af, cf, rfl, _⟩ := own_slice2 hr2
             have hs2 := hb2.size
             rw [HE.out] at hf2
             obtain ⟨A2, c2, rfl, _⟩ := hf2.len
             have HFO := Lib.hid hf2
             have HB2 := Lib.hid (HB1.out.trans (hb2.mono hs1))
             clear hb2 hf2 hr2
             go_wp2_with fail
             refine (text_any s w2).mono ?_
             rintro e w3 ⟨rfl, hb3⟩
             have hs3 := hb3.size
             have hB3 : Below w.heap.size w w3 := HB2.out.trans (hb3.mono (by omega))
             have hfo3 : Forest w3 (· < w3.heap.size) (.slice A2 [txt s.data.toList].length c2) [txt s.data.toList] := (HFO.out.under hb3 (fun _ h => h)).keep (fun b hb => by omega) (fun _ _ _ h => h)
             have hft := forest_new_txt w3 s.data.toList
             rw [mk_list] at hft
             have ci := is_any s [txt s.data.toList] (by omega) HF2.out HE.out _ _ m hft ((cellAlloc _ ((hB3.cell (p := ⟨0, 0, none⟩) hB).trans HM.out)))
             have HB3 := Lib.hid hB3
             have HFO3 := Lib.hid hfo3
             clear hb3 hB3 hfo3 hft
             go_wp2_with fail
             refine ci.mono ?_
             clear ci
             rintro e w4 ⟨rfl, hb4⟩
             have hs4 := hb4.size
             simp only [World.size_alloc] at hs4
             have hfo4 : Forest w4 (· < w4.heap.size) (.slice A2 [txt s.data.toList].length c2) [txt s.data.toList] := ((HFO3.out.under ((Below.refl w3.heap.size w3).alloc (Nat.le_refl _) _) (fun _ h => h)).under (hb4.mono (by simp)) (fun _ h => h)).keep (fun b hb => by omega) (fun _ _ _ h => h)
             have cl := Plain_any [txt s.data.toList] (by simp [manyL, many1, txt]) (by simp [sayL, say1, txt]; omega) _ w4 hfo4
             have e1 : sayL [txt s.data.toList] = s.data.toList := by simp [sayL, say1, txt]
             rw [e1, mk_list] at cl
             have HB4 := Lib.hid ((HB3.out.alloc (by omega) _).trans (hb4.mono (by simp; omega)))
             clear hb4 hfo4 e1
             go_wp2_with fail
             refine cl.mono ?_
             clear cl
             rintro e w5 ⟨rfl, hb5⟩
             have HB5 := Lib.hid (HB4.out.trans (hb5.mono (by omega)))
             clear hb5
             go_wp2
             go_ret
             exact ⟨rfl, HB5.out⟩)
  · have hb2 : (20000 : Int) < (s.size : Int) := by omega
    go_enter Tryz.func5, Tryz.ntmps5
    go_wp2_with fail
    refine ca.mono ?_
    clear ca
    rintro e w1 ⟨rfl, hb1⟩
    have HB1 := Lib.hid hb1
    have ca2 := alive_any w1 m ((hb1.cell (p := ⟨0, 0, none⟩) hB).trans HM.out)
    have hs1 := hb1.size
    clear hb1
    go_wp2_with fail
    refine ca2.mono ?_
    clear ca2
    rintro e w2 ⟨rfl, hb2'⟩
    have HB2 := Lib.hid (HB1.out.trans (hb2'.mono hs1))
    clear hb2'
    go_wp2
    go_ret
    exact ⟨rfl, HB2.out⟩
end Go.Proofs.YtgiiglcgfbnaoaaGreatDoor
namespace Go.Bd
theorem faults_open {w : Bs} (hw : (96 : UInt8) ∉ w) : ∃ l, faultsOf (96 :: w) = 7 :: l := by
  obtain ⟨l, h⟩ := code_open hw
  refine ⟨(sortF l).map (·.2), ?_⟩
  unfold faultsOf
  rw [h, sortF]
  have e : ∀ m : List (Nat × Nat), insF (0, 7) m = (0, 7) :: m := fun m => by
    cases m with
    | nil => rfl
    | cons q m => rw [insF, if_pos (Nat.zero_le _)]
  rw [e]
  rfl
/-- what a text's end tells -/
theorem of_end {s : Bs} {x : Sp} (h : endP s = ⟨[⟨⟨[x], []⟩, 0, [], 0⟩], []⟩) : faultsOf s = [] ∧ spansOf s = [x] := by
  refine ⟨(faultsOf_nil _).2 (by unfold faultsAt; rw [h]), ?_⟩
  unfold spansOf
  rw [h]
  rfl
theorem of_text {s : Bs} (hn : s ≠ []) (h : AllText s) : faultsOf s = [] ∧ spansOf s = [txt s] := by
  have h' : endP s = ⟨[⟨⟨[], s⟩, 0, [], 0⟩], []⟩ := h
  refine ⟨(faultsOf_nil _).2 (by unfold faultsAt; rw [h']), ?_⟩
  unfold spansOf
  rw [h']
  simp [Rw.flush, hn]
/-- one of sound spans -/
theorem snd_at : ∀ {l : List Sp} {d p k : Nat} {x : Sp}, sndL l d p = true → l[k]? = some x → snd1 x d = true ∧ (x.kind = 0 → (k = 0 → p ≠ 0) ∧ ∀ y, 0 < k → l[k - 1]? = some y → y.kind ≠ 0)
  | [], _, _, _, _, _, hx => by simp at hx
  | y :: l, d, p, 0, x, h, hx => by
    simp only [List.getElem?_cons_zero, Option.some.injEq] at hx
    subst hx
    simp only [sndL, Bool.and_eq_true, Bool.not_eq_true', Bool.and_eq_false_iff, decide_eq_false_iff_not] at h
    exact ⟨h.1.1, fun h0 => ⟨fun _ => h.1.2.resolve_left (fun hn => hn h0), fun _ hk => absurd hk (Nat.lt_irrefl 0)⟩⟩
  | y :: l, d, p, k + 1, x, h, hx => by
    simp only [sndL, Bool.and_eq_true] at h
    simp only [List.getElem?_cons_succ] at hx
    obtain ⟨h1, h2⟩ := snd_at h.2 hx
    refine ⟨h1, fun h0 => ⟨fun hk => by omega, fun z _ hz => ?_⟩⟩
    cases k with
    | zero =>
      simp only [Nat.zero_add, Nat.sub_self, List.getElem?_cons_zero, Option.some.injEq] at hz
      subst hz
      exact (h2 h0).1 rfl
    | succ k => exact (h2 h0).2 z (by omega) (by simpa using hz)
/-- what a sound span has -/
theorem snd_cases {x : Sp} {d : Nat} (h : snd1 x d = true) :
    (x.kind = 0 ∧ x.text ≠ [] ∧ x.kids = [] ∧ x.sub = [] ∧ x.see = []) ∨ ((x.kind = 3 ∨ x.kind = 4) ∧ x.kids = [] ∧ x.sub = [] ∧ x.see = []) ∨ (x.kind = 5 ∧ x.kids = []) ∨
    ((x.kind = 1 ∨ x.kind = 2) ∧ x.text = [] ∧ d ≠ 16 ∧ sndL x.kids (d + 1) 1 = true ∧ x.kids ≠ [] ∧ x.sub = [] ∧ x.see = []) ∨ (x.kind = 6 ∧ x.text = [] ∧ d ≠ 16 ∧ sndL x.kids (d + 1) 1 = true ∧ x.sub = [] ∧ x.see = []) := by
  obtain ⟨k, t, u, v, kids⟩ := x
  simp only [snd1, Bool.and_eq_true] at h
  obtain ⟨⟨⟨⟨h1, h2⟩, h3⟩, h4⟩, h5⟩ := h
  have hk : k ≤ 6 := by simpa using h1
  have hq : k = 0 ∨ k = 1 ∨ k = 2 ∨ k = 3 ∨ k = 4 ∨ k = 5 ∨ k = 6 := by omega
  rcases hq with rfl | rfl | rfl | rfl | rfl | rfl | rfl <;> simp at h2 h3 h4 h5 ⊢ <;> simp [*]
end Go.Bd
namespace Go.Proofs.YtgiiglcgfbnaoaaGreatDoor
open Go.RowKit Go.Bd
def ManyOk (N : Nat) : Prop := ∀ (l : List Sp), manyL l ≤ N → manyL l ≤ 1000000000 → ∀ (v : Value) (w : World) (B : Nat), Forest w (· < B) v l → B ≤ w.heap.size →
    Calls Tryz.prog 23 #[v] w fun e w' => e = .returned (.int .i64 (manyL l : Int)) ∧ Below B w w'
theorem manyL_take {l : List Sp} {k : Nat} {x : Sp} (h : l[k]? = some x) : manyL (l.take (k + 1)) = manyL (l.take k) + 1 + manyL x.kids := by
  rw [List.take_add_one, h, manyL_app]
  obtain ⟨q, t, u, v, ks⟩ := x
  simp [manyL, many1]; omega
set_option maxRecDepth 100000 in
set_option maxHeartbeats 2000000 in
theorem many_step {N : Nat} (ih : ∀ M, M < N → ManyOk M) : ManyOk N := by
  intro l hN hm v w B hF hB
  obtain ⟨A, c, rfl, hc⟩ := hF.len
  have hlm := many_len l
  have HF := Lib.hid hF
  have HIH := Lib.hid ih
  clear hF ih
  obtain ⟨n, hn⟩ : ∃ n, l.length = n := ⟨_, rfl⟩
  obtain ⟨mm, hmm⟩ : ∃ mm, manyL l = mm := ⟨_, rfl⟩
  have HN := Lib.hid hn
  have HMM := Lib.hid hmm
  simp only [hn, hmm] at hc hlm hN hm HF ⊢
  clear hn hmm
  go_enter Tryz.func23, Tryz.ntmps23
  go_wp2
  go_loopg [3, 4] n (fun q vn vi wr => ∃ k a : Nat, k + q = n ∧ vi = .int .i64 (k : Int) ∧ vn = .int .i64 (a : Int) ∧ a ≤ mm ∧ Hid (a + k = n + manyL (l.take k) ∧ Below B w wr))
  case atStart => exact ⟨0, n, by omega, rfl, rfl, hlm, by simp [manyL], Below.refl _ _⟩
  case round =>
    obtain ⟨k, a, hk, rfl, rfl, ham, HR⟩ := hrel
    by_cases hlt : k < n
    · obtain ⟨x, hx⟩ : ∃ x, l[k]? = some x := ⟨_, List.getElem?_eq_getElem (by rw [HN.out]; exact hlt)⟩
      obtain ⟨b1, off, kA, kc, rfl, hb1, hkF, p0, p1, p2, p3, p4⟩ := HF.out.at hx
      have hbl := HR.out.2
      replace p4 := (hbl.cell (p := ⟨b1, off + k * 5 + 4, none⟩) hb1).trans p4
      have hgt := many_get hx
      rw [HMM.out] at hgt
      have hrb := hbl.size
      have htk := manyL_take hx
      have hbd : manyL (l.take (k + 1)) + n ≤ mm + (k + 1) := by
        have e := manyL_app (l.take (k + 1)) (l.drop (k + 1))
        rw [List.take_append_drop, HMM.out] at e
        have h2 := many_len (l.drop (k + 1))
        rw [List.length_drop, HN.out] at h2
        omega
      have ci := HIH.out (manyL x.kids) (by omega) x.kids (Nat.le_refl _) (by omega) _ wr B (hkF.under hbl (fun _ h => h)) (by omega)
      have hsum : a + manyL x.kids + (k + 1) = n + manyL (l.take (k + 1)) := by have := HR.out.1; omega
      have HSM := Lib.hid hsum
      have ham2 : a + manyL x.kids ≤ mm := by omega
      generalize manyL x.kids = mk at ci ham2 HSM
      clear hx hkF hbl p0 p1 p2 p3 htk hbd hgt hsum
      go_wp2_with fail
      refine ci.mono ?_
      clear ci
      rintro e w2 ⟨rfl, hb2⟩
      have HB2 := Lib.hid (HR.out.2.trans hb2)
      clear hb2
      go_wp2
      go_roundg (gk - 1)
      case measure => omega
      case rel => exact ⟨k + 1, a + mk, by omega, by go_num, by go_num, ham2, HSM.out, HB2.out⟩
    · obtain rfl : k = n := by omega
      have ha : a = mm := by
        have h1 := HR.out.1
        rw [List.take_of_length_le (by rw [HN.out]; exact Nat.le_refl _), HMM.out] at h1
        omega
      subst ha
      go_wp2
      go_ret
      exact ⟨rfl, HR.out.2⟩
theorem many_any (N : Nat) : ManyOk N := by
  induction N using Nat.strongRecOn with
  | _ N ih => exact many_step ih
def faultV (f : Nat) : Value := .int .i64 (f : Int)
theorem faults_rd {w : World} {B : Nat} {v : Value} {l : List Nat} (h : FaultRow w B v l) : Rd w w.heap.size v (l.map faultV) := own_rd h
theorem faults_le {w : World} {B : Nat} {v : Value} {l : List Nat} (h : FaultRow w B v l) : l.length ≤ 9223372036854775807 := by
  rcases h.2 with ⟨_, h0⟩ | ⟨g, cap, cur, hv, hb, hh, hc, hm, hs, _⟩
  · omega
  · unfold maxLen at hm; omega
set_option maxRecDepth 100000 in
/-- faults that are the same -/
theorem sameFaults_any (l : List Nat) (hL : l.length ≤ 9223372036854775807) (a b : Value) (w : World) (B : Nat) (ha : Rd w B a (l.map faultV)) (hb : Rd w B b (l.map faultV)) :
    Calls Tryz.prog 24 #[a, b] w fun e w' => e = .returned (.bool true) ∧ Below w.heap.size w w' := by
  obtain ⟨A, ca, rfl, hca, fa⟩ := ha.form
  obtain ⟨C, cb, rfl, hcb, fb⟩ := hb.form
  rw [List.length_map] at hca hcb
  rw [List.length_map]
  have FA : Hid (∀ (j : Nat) x, l[j]? = some x → ∃ b off, A = some ⟨b, off, none⟩ ∧ b < B ∧ w.cell? ⟨b, off + j, none⟩ = some (.int .i64 (x : Int))) := fun j x hj => fa j _ (by rw [List.getElem?_map, hj]; rfl)
  have FB : Hid (∀ (j : Nat) x, l[j]? = some x → ∃ b off, C = some ⟨b, off, none⟩ ∧ b < B ∧ w.cell? ⟨b, off + j, none⟩ = some (.int .i64 (x : Int))) := fun j x hj => fb j _ (by rw [List.getElem?_map, hj]; rfl)
  clear ha hb fa fb
  generalize hn : l.length = n at hca hcb hL ⊢
  have HN := Lib.hid hn
  clear hn
  go_enter Tryz.func24, Tryz.ntmps24
  go_wp2
  go_loopg [5] n (fun r i wr => ∃ k : Nat, k + r = n ∧ i = .int .i64 k ∧ Below w.heap.size w wr ∧ (∀ p : Addr, wr.cell? p = w.cell? p))
  case atStart => exact ⟨0, by omega, rfl, Below.refl _ _, fun _ => rfl⟩
  case round =>
    obtain ⟨k, hk, rfl, hbl, hcell⟩ := hrel
    by_cases hlt : k < n
    · obtain ⟨s, hs⟩ : ∃ s, l[k]? = some s := ⟨_, List.getElem?_eq_getElem (by rw [HN.out]; exact hlt)⟩
      obtain ⟨b1, o1, rfl, _, c1⟩ := FA.out k s hs
      obtain ⟨b2, o2, rfl, _, c2⟩ := FB.out k s hs
      replace c1 := (hcell _).trans c1
      replace c2 := (hcell _).trans c2
      have HC := Lib.hid hcell
      clear hcell hs
      go_wp2
      go_quiet (fail)
      go_wp2
      have hb2 := below_drewN hbl nq
      go_roundg (gk - 1)
      case measure => omega
      case rel => exact ⟨k + 1, by omega, by go_num, hb2, fun p => HC.out p⟩
    · have hk' : n ≤ k := by omega
      have HC := Lib.hid hcell
      clear hcell
      go_wp2
      go_ret
      exact ⟨rfl, hbl⟩
end Go.Proofs.YtgiiglcgfbnaoaaGreatDoor
namespace Go.Proofs.YtgiiglcgfbnaoaaGreatDoor
open Go.RowKit Go.Bd
def noAcc (c : UInt8) : Bool := !(c == 96 || c == 92)
theorem noAcc_or (c : UInt8) : c = 96 ∨ c = 92 ∨ noAcc c = true := by
  unfold noAcc
  by_cases h1 : c = 96; · exact .inl h1
  by_cases h2 : c = 92; · exact .inr (.inl h2)
  refine .inr (.inr ?_)
  simp [h1, h2]
theorem noAcc_mem {l : Bs} (h : l.all noAcc = true) : (96 : UInt8) ∉ l := fun hm => by
  have := List.all_eq_true.1 h _ hm
  simp [noAcc] at this
theorem cat_list (a b : ByteArray) : (a ++ b).data.toList = a.data.toList ++ b.data.toList := by simp
theorem sizeL (b : ByteArray) : b.size = b.data.toList.length := by rw [Array.length_toList]; rfl
set_option maxRecDepth 100000 in
set_option maxHeartbeats 4000000 in
theorem spansCode_true (s : ByteArray) (m : Int) (w : World) (hm : w.cell? ⟨0, 0, none⟩ = some (.int .i64 m)) (hs : s.size ≤ 140737488355328) :
    Calls Tryz.prog 9 #[.string s] w fun e w' => e = .returned (.bool true) ∧ Below w.heap.size w w' := by
  have hB : 0 < w.heap.size := World.block_lt_of_cell? w _ hm
  have HM := Lib.hid hm
  have ca := alive_any w m hm
  clear hm
  by_cases hbig : s.size ≤ 2000
  · go_enter Tryz.func9, Tryz.ntmps9
    go_wp2_with fail
    refine ca.mono ?_
    clear ca
    rintro e w1 ⟨rfl, hb1⟩
    have HB1 := Lib.hid hb1
    have hs1 := hb1.size
    clear hb1
    go_wp2
    go_loopg [3] s.size (fun q i wr => wr = w1 ∧ ∃ k : Nat, k + q = s.size ∧ i = .int .i64 (k : Int) ∧ Hid ((s.data.toList.take k).all noAcc = true))
    case atStart => exact ⟨rfl, 0, by omega, rfl, (rfl : (s.data.toList.take 0).all noAcc = true)⟩
    case round =>
      obtain ⟨rfl, k, hk, rfl, HP⟩ := hrel
      by_cases hlt : k < s.size
      · rcases noAcc_or s[k] with h | h | h
        case inr.inr =>
          have HP2 := Lib.hid (all_snoc hlt HP.out h)
          have n1 : s[k] ≠ 96 := fun e => by rw [e] at h; simp [noAcc] at h
          have n2 : s[k] ≠ 92 := fun e => by rw [e] at h; simp [noAcc] at h
          have q1 := neB (d := 96) (k := 96) rfl n1
          have q2 := neB (d := 92) (k := 92) rfl n2
          clear h n1 n2
          go_wp2
          go_roundg (gk - 1)
          case measure => omega
          case rel => exact ⟨rfl, k + 1, by omega, by go_num, HP2.out⟩
        case inl =>
          have q0 := isB (d := 96) (k := 96) rfl h
          clear h
          go_wp2
          go_ret
          exact ⟨rfl, HB1.out⟩
        case inr.inl =>
          have q0 := neB (c := s[k]) (d := 96) (k := 96) rfl (by rw [h]; decide)
          have q1 := isB (d := 92) (k := 92) rfl h
          clear h
          go_wp2
          go_ret
          exact ⟨rfl, HB1.out⟩
      · obtain rfl : k = s.size := by omega
        have hpl : (96 : UInt8) ∉ s.data.toList := by
          have h := HP.out
          rw [List.take_of_length_le (by simp)] at h
          exact noAcc_mem h
        obtain ⟨lf, hlf⟩ := faults_open hpl
        obtain ⟨hcf, hcs⟩ := of_end (end_code hpl)
        have hc1 := (HB1.out.cell (p := ⟨0, 0, none⟩) hB).trans HM.out
        have HC1 := Lib.hid hc1
        have HPL := Lib.hid hpl
        have HLF := Lib.hid hlf
        have HCF := Lib.hid hcf
        have HCS := Lib.hid hcs
        clear hpl hlf hcf hcs hc1 HP
        obtain ⟨o, ho⟩ : ∃ o : ByteArray, (⟨#[96]⟩ : ByteArray) ++ s = o := ⟨_, rfl⟩
        have hol : o.data.toList = 96 :: s.data.toList := by rw [← ho, cat_list]; rfl
        have hos : o.size = s.size + 1 := by rw [sizeL, hol, List.length_cons, ← sizeL]
        have cp := parseSpans_any o wr (by omega) m HC1.out
        rw [hol, HLF.out] at cp
        have HOL := Lib.hid hol
        have HO := Lib.hid ho
        clear hol
        go_wp2_with fail
        refine cp.mono ?_
        clear cp
        rintro e w2 ⟨sv, fv, rfl, hb2, hf2, hr2⟩
        have hs2 := hb2.size
        obtain ⟨Af, cf, rfl, hcf, fa⟩ := (faults_rd hr2).form
        obtain ⟨b1, o1, rfl, hb1, c1⟩ := fa 0 (faultV 7) rfl
        obtain ⟨A2, c2, rfl, _⟩ := hf2.len
        have c1' : w2.cell? ⟨b1, o1, none⟩ = some (.int .i64 7) := c1
        have HB2 := Lib.hid (HB1.out.trans (hb2.mono hs1))
        obtain ⟨o2, ho2⟩ : ∃ o2 : ByteArray, o ++ (⟨#[96]⟩ : ByteArray) = o2 := ⟨_, rfl⟩
        have HO2 := Lib.hid ho2
        have ho2l : o2.data.toList = 96 :: (s.data.toList ++ [96]) := by rw [← ho2, cat_list, HOL.out]; rfl
        have ho2s : o2.size = s.size + 2 := by rw [sizeL, ho2l, List.length_cons, List.length_append, ← sizeL]; rfl
        have hC : Forest (w2.alloc (.cells #[.int .u8 3, .string s, .string ⟨#[]⟩, .string ⟨#[]⟩, .slice none 0 0] 33)) (· < (w2.alloc (.cells #[.int .u8 3, .string s, .string ⟨#[]⟩, .string ⟨#[]⟩, .slice none 0 0] 33)).heap.size) (.slice (some ⟨w2.heap.size, 0, none⟩) 1 1) [⟨3, s.data.toList, [], [], []⟩] := by
          have h := forest_one (x := ⟨3, s.data.toList, [], [], []⟩) (kv := .slice none 0 0) (w := w2.alloc (.cells #[.int .u8 3, .string s, .string ⟨#[]⟩, .string ⟨#[]⟩, .slice none 0 0] 33)) (F := (· < (w2.alloc (.cells #[.int .u8 3, .string s, .string ⟨#[]⟩, .string ⟨#[]⟩, .slice none 0 0] 33)).heap.size)) (g := w2.heap.size) (t := 33)
            (by have h := Holds.new w2 33 #[.int .u8 3, .string s, .string ⟨#[]⟩, .string ⟨#[]⟩, .slice none 0 0]
                have e : strV s.data.toList = .string s := by rw [strV, mk_list]
                simp only [spCells, e]
                exact h) (by simp) (Forest.nil _ _)
          exact h
        have ci := is_any o2 _ (by omega) (by rw [ho2l]; exact HCF.out) (by rw [ho2l]; exact HCS.out) _ _ m hC (cellAlloc _ ((hb2.cell (p := ⟨0, 0, none⟩) (show 0 < wr.heap.size by omega)).trans HC1.out))
        have hbw : b1 < w2.heap.size := hb1
        clear hb2 hf2 hr2 fa c1 hC
        rw [List.length_map, List.length_cons] at hcf ⊢
        obtain ⟨nl, hnl⟩ : ∃ nl, lf.length = nl := ⟨_, rfl⟩
        rw [hnl] at hcf ⊢
        clear hnl
        go_wp2_with fail
        refine ci.mono ?_
        clear ci
        rintro e w3 ⟨rfl, hb3⟩
        have HB3 := Lib.hid ((HB2.out.alloc (by omega) _).trans (hb3.mono (by simp; omega)))
        have c3 : w3.cell? ⟨b1, o1, none⟩ = some (.int .i64 7) := (hb3.cell (p := ⟨b1, o1, none⟩) (by simp; omega)).trans (cellAlloc _ c1')
        clear hb3
        go_wp2
        go_ret
        exact ⟨rfl, HB3.out⟩
  · have hb2 : (2000 : Int) < (s.size : Int) := by omega
    go_enter Tryz.func9, Tryz.ntmps9
    go_wp2_with fail
    refine ca.mono ?_
    clear ca
    rintro e w1 ⟨rfl, hb1⟩
    have HB1 := Lib.hid hb1
    have ca2 := alive_any w1 m ((hb1.cell (p := ⟨0, 0, none⟩) hB).trans HM.out)
    have hs1 := hb1.size
    clear hb1
    go_wp2_with fail
    refine ca2.mono ?_
    clear ca2
    rintro e w2 ⟨rfl, hb2'⟩
    have HB2 := Lib.hid (HB1.out.trans (hb2'.mono hs1))
    clear hb2'
    go_wp2
    go_ret
    exact ⟨rfl, HB2.out⟩
end Go.Proofs.YtgiiglcgfbnaoaaGreatDoor
namespace Go.Proofs.YtgiiglcgfbnaoaaGreatDoor
open Go.RowKit Go.Bd
theorem sty_or (c : UInt8) : c = 96 ∨ c = 60 ∨ c = 40 ∨ c = 94 ∨ c = 93 ∨ c = 92 ∨ styC c = true := by
  unfold styC
  by_cases h1 : c = 96; · exact .inl h1
  by_cases h2 : c = 60; · exact .inr (.inl h2)
  by_cases h3 : c = 40; · exact .inr (.inr (.inl h3))
  by_cases h4 : c = 94; · exact .inr (.inr (.inr (.inl h4)))
  by_cases h5 : c = 93; · exact .inr (.inr (.inr (.inr (.inl h5))))
  by_cases h6 : c = 92; · exact .inr (.inr (.inr (.inr (.inr (.inl h6)))))
  refine .inr (.inr (.inr (.inr (.inr (.inr ?_)))))
  simp [h1, h2, h3, h4, h5, h6]
theorem cat_bytes (a b : Bs) : (⟨a.toArray⟩ : ByteArray) ++ ⟨b.toArray⟩ = ⟨(a ++ b).toArray⟩ := by
  apply ByteArray.ext
  simp
/-- spans that read on behind a call -/
theorem Forest.later {w w' : World} {v : Value} {l : List Sp} (h : Forest w (· < w.heap.size) v l) (hb : Below w.heap.size w w') : Forest w' (· < w'.heap.size) v l :=
  (h.under hb (fun _ h => h)).keep (fun b hx => by have h1 : b < w.heap.size := hx; have h2 := hb.size; show b < w'.heap.size; omega) (fun _ _ _ h => h)
set_option maxRecDepth 100000 in
set_option maxHeartbeats 8000000 in
theorem spansJoins_true (s t : ByteArray) (m : Int) (w : World) (hm : w.cell? ⟨0, 0, none⟩ = some (.int .i64 m)) (hs : s.size ≤ 140737488355328) (ht : t.size ≤ 140737488355328) :
    Calls Tryz.prog 10 #[.string s, .string t] w fun e w' => e = .returned (.bool true) ∧ Below w.heap.size w w' := by
  have hB : 0 < w.heap.size := World.block_lt_of_cell? w _ hm
  have HM := Lib.hid hm
  have ca := alive_any w m hm
  clear hm
  by_cases hbig : s.size ≤ 1000 ∧ t.size ≤ 1000
  · obtain ⟨hbs, hbt⟩ := hbig
    obtain ⟨u, hu⟩ : ∃ u : ByteArray, s ++ t = u := ⟨_, rfl⟩
    have hul : u.data.toList = s.data.toList ++ t.data.toList := by rw [← hu, cat_list]
    have hus : u.size = s.size + t.size := by rw [sizeL, hul, List.length_append, ← sizeL, ← sizeL]
    have HUL := Lib.hid hul
    clear hul
    go_enter Tryz.func10, Tryz.ntmps10
    go_wp2_with fail
    refine ca.mono ?_
    clear ca
    rintro e w1 ⟨rfl, hb1⟩
    have HB1 := Lib.hid hb1
    have hs1 := hb1.size
    clear hb1
    go_wp2
    go_loopg [6] u.size (fun q i wr => wr = w1 ∧ ∃ k : Nat, k + q = u.size ∧ i = .int .i64 (k : Int) ∧ Hid ((u.data.toList.take k).all styC = true))
    case atStart => exact ⟨rfl, 0, by omega, rfl, (rfl : (u.data.toList.take 0).all styC = true)⟩
    case round =>
      obtain ⟨rfl, k, hk, rfl, HP⟩ := hrel
      by_cases hlt : k < u.size
      · rcases sty_or u[k] with h | h | h | h | h | h | h
        case inr.inr.inr.inr.inr.inr =>
          have HP2 := Lib.hid (all_snoc hlt HP.out h)
          obtain ⟨n1, n2, n3, n4, n5, n6⟩ := sty_ne h
          have q1 := neB (d := 96) (k := 96) rfl n1
          have q2 := neB (d := 60) (k := 60) rfl n2
          have q3 := neB (d := 40) (k := 40) rfl n3
          have q4 := neB (d := 94) (k := 94) rfl n4
          have q5 := neB (d := 93) (k := 93) rfl n5
          have q6 := neB (d := 92) (k := 92) rfl n6
          clear h n1 n2 n3 n4 n5 n6
          go_wp2
          go_roundg (gk - 1)
          case measure => omega
          case rel => exact ⟨rfl, k + 1, by omega, by go_num, HP2.out⟩
        case inl =>
          have q0 := isB (d := 96) (k := 96) rfl h
          clear h
          go_wp2
          go_ret
          exact ⟨rfl, HB1.out⟩
        case inr.inl =>
          have q0 := neB (c := u[k]) (d := 96) (k := 96) rfl (by rw [h]; decide)
          have q1 := isB (d := 60) (k := 60) rfl h
          clear h
          go_wp2
          go_ret
          exact ⟨rfl, HB1.out⟩
        case inr.inr.inl =>
          have q0 := neB (c := u[k]) (d := 96) (k := 96) rfl (by rw [h]; decide)
          have q1 := neB (c := u[k]) (d := 60) (k := 60) rfl (by rw [h]; decide)
          have q2 := isB (d := 40) (k := 40) rfl h
          clear h
          go_wp2
          go_ret
          exact ⟨rfl, HB1.out⟩
        case inr.inr.inr.inl =>
          have q0 := neB (c := u[k]) (d := 96) (k := 96) rfl (by rw [h]; decide)
          have q1 := neB (c := u[k]) (d := 60) (k := 60) rfl (by rw [h]; decide)
          have q2 := neB (c := u[k]) (d := 40) (k := 40) rfl (by rw [h]; decide)
          have q3 := isB (d := 94) (k := 94) rfl h
          clear h
          go_wp2
          go_ret
          exact ⟨rfl, HB1.out⟩
        case inr.inr.inr.inr.inl =>
          have q0 := neB (c := u[k]) (d := 96) (k := 96) rfl (by rw [h]; decide)
          have q1 := neB (c := u[k]) (d := 60) (k := 60) rfl (by rw [h]; decide)
          have q2 := neB (c := u[k]) (d := 40) (k := 40) rfl (by rw [h]; decide)
          have q3 := neB (c := u[k]) (d := 94) (k := 94) rfl (by rw [h]; decide)
          have q4 := isB (d := 93) (k := 93) rfl h
          clear h
          go_wp2
          go_ret
          exact ⟨rfl, HB1.out⟩
        case inr.inr.inr.inr.inr.inl =>
          have q0 := neB (c := u[k]) (d := 96) (k := 96) rfl (by rw [h]; decide)
          have q1 := neB (c := u[k]) (d := 60) (k := 60) rfl (by rw [h]; decide)
          have q2 := neB (c := u[k]) (d := 40) (k := 40) rfl (by rw [h]; decide)
          have q3 := neB (c := u[k]) (d := 94) (k := 94) rfl (by rw [h]; decide)
          have q4 := neB (c := u[k]) (d := 93) (k := 93) rfl (by rw [h]; decide)
          have q5 := isB (d := 92) (k := 92) rfl h
          clear h
          go_wp2
          go_ret
          exact ⟨rfl, HB1.out⟩
      · obtain rfl : k = u.size := by omega
        have hall := HP.out
        rw [List.take_of_length_le (by simp), HUL.out, List.all_append, Bool.and_eq_true] at hall
        obtain ⟨hsa, hta⟩ := hall
        have hc1 := (HB1.out.cell (p := ⟨0, 0, none⟩) hB).trans HM.out
        -- the three texts
        obtain ⟨sb, hsb⟩ : ∃ x : ByteArray, s ++ (⟨#[32]⟩ : ByteArray) = x := ⟨_, rfl⟩
        obtain ⟨sbt, hsbt⟩ : ∃ x : ByteArray, sb ++ t = x := ⟨_, rfl⟩
        have hsbl : sb.data.toList = s.data.toList ++ [32] := by rw [← hsb, cat_list]
        have hsbtl : sbt.data.toList = s.data.toList ++ [32] ++ t.data.toList := by rw [← hsbt, cat_list, hsbl]
        have hsbs : sb.size = s.size + 1 := by rw [sizeL, hsbl, List.length_append, ← sizeL]; rfl
        have hsbts : sbt.size = s.size + 1 + t.size := by rw [sizeL, hsbtl, List.length_append, List.length_append, ← sizeL, ← sizeL]; rfl
        have cpa := fun w' h => parseSpans_any sb w' (by omega) m h
        have cpb := fun w' h => parseSpans_any t w' (by omega) m h
        have cpc := fun w' h => parseSpans_any sbt w' (by omega) m h
        have ma := many_spans sb.data.toList
        have mb := many_spans t.data.toList
        have mc := many_spans sbt.data.toList
        have sa := say_spans sb.data.toList
        have sb' := say_spans t.data.toList
        have sc := say_spans sbt.data.toList
        rw [← sizeL] at ma mb mc sa sb' sc
        have hj : faultsOf sb.data.toList = [] → _ := fun h => joins hsa hta ((faultsOf_nil _).1 (by rw [← hsbl]; exact h))
        rw [← hsbtl, ← hsbl] at hj
        have HC1 := Lib.hid hc1
        clear hsa hta hc1 HP hsbl hsbtl
        generalize spansOf sb.data.toList = La at cpa ma sa hj
        generalize spansOf t.data.toList = Lb at cpb mb sb' hj
        generalize spansOf sbt.data.toList = Lc at cpc mc sc hj
        generalize faultsOf sb.data.toList = fa at cpa hj
        generalize faultsOf t.data.toList = fb at cpb hj
        generalize faultsOf sbt.data.toList = fc at cpc hj
        have HJ := Lib.hid hj
        have CB := Lib.hid cpb
        have CC := Lib.hid cpc
        replace cpa := cpa wr HC1.out
        clear hj cpb cpc
        go_wp2_with fail
        refine cpa.mono ?_
        clear cpa
        rintro e w2 ⟨av, fv, rfl, hb2, hfa, hra⟩
        have hs2 := hb2.size
        obtain ⟨Af, cf, rfl, hcf, _⟩ := (faults_rd hra).form
        obtain ⟨Aa, ca, rfl, hca⟩ := hfa.len
        have HA := Lib.hid hfa
        have HB2 := Lib.hid (HB1.out.trans (hb2.mono hs1))
        have hc2 := (hb2.cell (p := ⟨0, 0, none⟩) (show 0 < wr.heap.size by omega)).trans HC1.out
        have cpb := CB.out w2 hc2
        have HC2 := Lib.hid hc2
        clear hb2 hfa hra hc2
        rw [List.length_map] at hcf ⊢
        go_wp2_with fail
        refine cpb.mono ?_
        clear cpb
        rintro e w3 ⟨bv, gv, rfl, hb3, hfb, hrb⟩
        have hs3 := hb3.size
        have hgle := faults_le hrb
        have hrdg := faults_rd hrb
        obtain ⟨Ag, cg, rfl, hcg, _⟩ := hrdg.form
        obtain ⟨Ab, cb, rfl, hcb⟩ := hfb.len
        have HA3 := Lib.hid ((HA.out.under hb3 (fun _ h => h)).keep (G := (· < w3.heap.size)) (fun b hb => by have : b < w2.heap.size := hb; show b < w3.heap.size; omega) (fun _ _ _ h => h))
        have HBF := Lib.hid hfb
        have HG := Lib.hid hrdg
        have HB3 := Lib.hid (HB2.out.trans (hb3.mono (by omega)))
        have hc3 := (hb3.cell (p := ⟨0, 0, none⟩) (show 0 < w2.heap.size by omega)).trans HC2.out
        have cpc := CC.out w3 hc3
        clear hb3 hfb hrb hc3 hrdg HA
        go_wp2_with fail
        refine cpc.mono ?_
        clear cpc
        rintro e w4 ⟨cv, hv, rfl, hb4, hfc, hrc⟩
        have hs4 := hb4.size
        have hrdh := faults_rd hrc
        obtain ⟨Ah, ch, rfl, hch, _⟩ := hrdh.form
        obtain ⟨Ac, cc, rfl, hcc⟩ := hfc.len
        have keep4 : ∀ {v l}, Forest w3 (· < w3.heap.size) v l → Forest w4 (· < w4.heap.size) v l := fun h => (h.under hb4 (fun _ h => h)).keep (fun b hb => by have : b < w3.heap.size := hb; show b < w4.heap.size; omega) (fun _ _ _ h => h)
        have HA4 := Lib.hid (keep4 HA3.out)
        have HBF4 := Lib.hid (keep4 HBF.out)
        have HCF4 := Lib.hid hfc
        have HG4 := Lib.hid ((HG.out.below hb4).more hs4)
        have HH4 := Lib.hid hrdh
        have HB4 := Lib.hid (HB3.out.trans (hb4.mono (by omega)))
        clear hb4 hfc hrc hrdh HA3 HBF HG keep4
        by_cases hfe : fa = []
        · subst hfe
          obtain ⟨e1, e2, e3, e4, e5⟩ := HJ.out rfl
          subst e1
          have csf := sameFaults_any fc hgle _ _ w4 _ HG4.out HH4.out
          have hla : 1 ≤ La.length := List.length_pos_iff.2 e2
          have E3 := Lib.hid e3
          have hla0 : ((La.length : Int) == 0) = false := by rw [beq_eq_false_iff_ne]; omega
          clear e2 e3
          simp only [List.length_nil] at hcf ⊢
          rw [List.length_map] at csf ⊢
          go_wp2_with fail
          refine csf.mono ?_
          clear csf
          rintro e w5 ⟨rfl, hb5⟩
          have hs5 := hb5.size
          have HA5 := Lib.hid (Forest.later HA4.out hb5)
          have HBF5 := Lib.hid (Forest.later HBF4.out hb5)
          have HCF5 := Lib.hid (Forest.later HCF4.out hb5)
          have HB5 := Lib.hid (HB4.out.trans (hb5.mono (by omega)))
          clear hb5 HA4 HBF4 HCF4
          have hcat : (⟨(sayL La).toArray⟩ : ByteArray) ++ ⟨(sayL Lb).toArray⟩ = ⟨(sayL Lc).toArray⟩ := by rw [cat_bytes, ← E3.out]
          have pla := Plain_any La (by omega) (by omega) _ w5 HA5.out
          have plb := fun w' h => Plain_any Lb (by omega) (by omega) (.slice Ab Lb.length cb) w' h
          have plc := fun w' h => Plain_any Lc (by omega) (by omega) (.slice Ac Lc.length cc) w' h
          have zpa : (⟨(sayL La).toArray⟩ : ByteArray).size ≤ 1001 := by rw [size_mk]; omega
          have zpb : (⟨(sayL Lb).toArray⟩ : ByteArray).size ≤ 1001 := by rw [size_mk]; omega
          generalize (⟨(sayL La).toArray⟩ : ByteArray) = pa at pla hcat zpa
          generalize (⟨(sayL Lb).toArray⟩ : ByteArray) = pb at plb hcat zpb
          generalize (⟨(sayL Lc).toArray⟩ : ByteArray) = pc at plc hcat
          have MA := Lib.hid (fun w' h => many_any _ La (Nat.le_refl _) (by omega) (.slice Aa La.length ca) w' w'.heap.size h (Nat.le_refl _))
          have MB := Lib.hid (fun w' h => many_any _ Lb (Nat.le_refl _) (by omega) (.slice Ab Lb.length cb) w' w'.heap.size h (Nat.le_refl _))
          have MC := Lib.hid (fun w' h => many_any _ Lc (Nat.le_refl _) (by omega) (.slice Ac Lc.length cc) w' w'.heap.size h (Nat.le_refl _))
          generalize manyL La = na at MA ma e4 e5
          generalize manyL Lb = nb at MB mb e4 e5
          generalize manyL Lc = nc at MC mc e4 e5
          have PLB := Lib.hid plb
          have PLC := Lib.hid plc
          clear plb plc sa sb' sc
          go_wp2_with fail
          refine pla.mono ?_
          clear pla
          rintro e w6 ⟨rfl, hb6⟩
          have hs6 := hb6.size
          have HA6 := Lib.hid (Forest.later HA5.out hb6)
          have HBF6 := Lib.hid (Forest.later HBF5.out hb6)
          have HCF6 := Lib.hid (Forest.later HCF5.out hb6)
          have HB6 := Lib.hid (HB5.out.trans (hb6.mono (by omega)))
          have plb := PLB.out _ HBF6.out
          clear hb6 HA5 HBF5 HCF5 PLB
          go_wp2_with fail
          refine plb.mono ?_
          clear plb
          rintro e w7 ⟨rfl, hb7⟩
          have hs7 := hb7.size
          have HA7 := Lib.hid (Forest.later HA6.out hb7)
          have HBF7 := Lib.hid (Forest.later HBF6.out hb7)
          have HCF7 := Lib.hid (Forest.later HCF6.out hb7)
          have HB7 := Lib.hid (HB6.out.trans (hb7.mono (by omega)))
          have plc := PLC.out _ HCF7.out
          clear hb7 HA6 HBF6 HCF6 PLC
          go_wp2_with fail
          refine plc.mono ?_
          clear plc
          rintro e w8 ⟨rfl, hb8⟩
          have hs8 := hb8.size
          have HA8 := Lib.hid (Forest.later HA7.out hb8)
          have HBF8 := Lib.hid (Forest.later HBF7.out hb8)
          have HCF8 := Lib.hid (Forest.later HCF7.out hb8)
          have HB8 := Lib.hid (HB7.out.trans (hb8.mono (by omega)))
          have mc1 := MC.out _ HCF8.out
          clear hb8 HA7 HBF7 HCF7
          go_wp2_with fail
          refine mc1.mono ?_
          clear mc1
          rintro e w9 ⟨rfl, hb9⟩
          have hs9 := hb9.size
          have HA9 := Lib.hid (Forest.later HA8.out hb9)
          have HBF9 := Lib.hid (Forest.later HBF8.out hb9)
          have HCF9 := Lib.hid (Forest.later HCF8.out hb9)
          have HB9 := Lib.hid (HB8.out.trans (hb9.mono (by omega)))
          have ma1 := MA.out _ HA9.out
          clear hb9 HA8 HBF8 HCF8
          go_wp2_with fail
          refine ma1.mono ?_
          clear ma1
          rintro e w10 ⟨rfl, hb10⟩
          have hs10 := hb10.size
          have HA10 := Lib.hid (Forest.later HA9.out hb10)
          have HBF10 := Lib.hid (Forest.later HBF9.out hb10)
          have HCF10 := Lib.hid (Forest.later HCF9.out hb10)
          have HB10 := Lib.hid (HB9.out.trans (hb10.mono (by omega)))
          have mb1 := MB.out _ HBF10.out
          clear hb10 HA9 HBF9 HCF9
          go_wp2_with fail
          refine mb1.mono ?_
          clear mb1
          rintro e w11 ⟨rfl, hb11⟩
          have hs11 := hb11.size
          have HA11 := Lib.hid (Forest.later HA10.out hb11)
          have HBF11 := Lib.hid (Forest.later HBF10.out hb11)
          have HCF11 := Lib.hid (Forest.later HCF10.out hb11)
          have HB11 := Lib.hid (HB10.out.trans (hb11.mono (by omega)))
          have mc2 := MC.out _ HCF11.out
          clear hb11 HA10 HBF10 HCF10
          go_wp2_with fail
          refine mc2.mono ?_
          clear mc2
          rintro e w12 ⟨rfl, hb12⟩
          have hs12 := hb12.size
          have HA12 := Lib.hid (Forest.later HA11.out hb12)
          have HBF12 := Lib.hid (Forest.later HBF11.out hb12)
          have HB12 := Lib.hid (HB11.out.trans (hb12.mono (by omega)))
          have ma2 := MA.out _ HA12.out
          clear hb12 HA11 HBF11 HCF11
          go_wp2_with fail
          refine ma2.mono ?_
          clear ma2
          rintro e w13 ⟨rfl, hb13⟩
          have hs13 := hb13.size
          have HBF13 := Lib.hid (Forest.later HBF12.out hb13)
          have HB13 := Lib.hid (HB12.out.trans (hb13.mono (by omega)))
          have mb2 := MB.out _ HBF13.out
          clear hb13 HA12 HBF12
          go_wp2_with fail
          refine mb2.mono ?_
          clear mb2
          rintro e w14 ⟨rfl, hb14⟩
          have HB14 := Lib.hid (HB13.out.trans (hb14.mono (by omega)))
          clear hb14 HBF13
          go_wp2
          go_ret
          exact ⟨ret_bool (decide_eq_true (by omega)), HB14.out⟩
        · have hf0 : 1 ≤ fa.length := List.length_pos_iff.2 hfe
          go_wp2
          go_ret
          exact ⟨rfl, HB4.out⟩
  · go_enter Tryz.func10, Tryz.ntmps10
    rcases Nat.lt_or_ge 1000 s.size with hb2 | hb2
    all_goals
      (try have hb3 : 1000 < t.size := by omega)
      clear hbig
      go_wp2_with fail
      refine ca.mono ?_
      clear ca
      rintro e w1 ⟨rfl, hb1⟩
      have HB1 := Lib.hid hb1
      have ca2 := alive_any w1 m ((hb1.cell (p := ⟨0, 0, none⟩) hB).trans HM.out)
      have hs1 := hb1.size
      clear hb1
      go_wp2_with fail
      refine ca2.mono ?_
      clear ca2
      rintro e w2 ⟨rfl, hb2'⟩
      have HB2 := Lib.hid (HB1.out.trans (hb2'.mono hs1))
      clear hb2'
      go_wp2
      go_ret
      exact ⟨rfl, HB2.out⟩
end Go.Proofs.YtgiiglcgfbnaoaaGreatDoor
namespace Go.Bd
mutual
theorem wl_sz1 : ∀ x : Sp, wl1 x ≤ 6 * sz1 x
  | ⟨_, _, _, _, kids⟩ => by have := wl_szL kids; simp only [wl1, sz1]; omega
theorem wl_szL : ∀ l : List Sp, wlL l ≤ 6 * szL l
  | [] => Nat.le_refl _
  | x :: l => by have := wl_sz1 x; have := wl_szL l; simp only [wlL, szL]; omega
end
mutual
theorem many_sz1 : ∀ x : Sp, many1 x ≤ sz1 x
  | ⟨_, _, _, _, kids⟩ => by have := many_szL kids; simp only [many1, sz1]; omega
theorem many_szL : ∀ l : List Sp, manyL l ≤ szL l
  | [] => Nat.le_refl _
  | x :: l => by have := many_sz1 x; have := many_szL l; simp only [manyL, szL]; omega
end
theorem put_len {l : List Sp} {t : Bs} (h : textOf l = some t) : t.length ≤ wlL l := by
  have h1 := putF_len l
  unfold textOf at h
  rw [putF_put] at h
  split at h
  · cases h
  · rename_i s hs
    split at hs
    · cases hs
      split at h
      · cases h; exact h1
      · cases h
    · cases hs
end Go.Bd
namespace Go.Proofs.YtgiiglcgfbnaoaaGreatDoor
open Go.RowKit Go.Bd
def SizeOk (N : Nat) : Prop := ∀ (l : List Sp), szL l ≤ N → szL l ≤ 1048576 → ∀ (v : Value) (w : World) (B : Nat), Forest w (· < B) v l → B ≤ w.heap.size →
    Calls Tryz.prog 25 #[v] w fun e w' => e = .returned (.int .i64 (szL l : Int)) ∧ Below B w w'
set_option maxRecDepth 100000 in
set_option maxHeartbeats 2000000 in
theorem size1_any {N : Nat} (ih : SizeOk N) (x : Sp) (hN : szL x.kids ≤ N) (hz : sz1 x ≤ 1048576) (v : Value) (w : World) (B : Nat) (hF : Forest w (· < B) v x.kids) (hB : B ≤ w.heap.size) :
    Calls Tryz.prog 47 #[.agg #[.int .u8 (x.kind : Int), .string ⟨x.text.toArray⟩, .string ⟨x.sub.toArray⟩, .string ⟨x.see.toArray⟩, v]] w fun e w' => e = .returned (.int .i64 (sz1 x : Int)) ∧ Below B w w' := by
  obtain ⟨A, c, rfl, hc⟩ := hF.len
  have hs := sz1_eq x
  have hal := (Below.refl B w).alloc hB (.cells #[.int .u8 (x.kind : Int), .string ⟨x.text.toArray⟩, .string ⟨x.sub.toArray⟩, .string ⟨x.see.toArray⟩, .slice A x.kids.length c] 33)
  have ci := ih x.kids hN (by omega) _ _ B (hF.under hal (fun _ h => h)) (by simp; omega)
  have HAL := Lib.hid hal
  generalize szL x.kids = kz at ci hs hN
  generalize sz1 x = z at hs hz ⊢
  have z1 : (⟨x.text.toArray⟩ : ByteArray).size = x.text.length := size_mk _
  have z2 : (⟨x.sub.toArray⟩ : ByteArray).size = x.sub.length := size_mk _
  have z3 : (⟨x.see.toArray⟩ : ByteArray).size = x.see.length := size_mk _
  clear hF hal ih
  generalize (⟨x.text.toArray⟩ : ByteArray) = b1 at z1 ci HAL ⊢
  generalize (⟨x.sub.toArray⟩ : ByteArray) = b2 at z2 ci HAL ⊢
  generalize (⟨x.see.toArray⟩ : ByteArray) = b3 at z3 ci HAL ⊢
  have hle : (1 : Int) + b1.size + b2.size + b3.size ≤ 1048576 := by omega
  have hz' : (1 : Int) + b1.size + b2.size + b3.size + kz = z := by omega
  have HZ := Lib.hid hz'
  clear hz' hs
  generalize x.kids.length = kl at ci hc HAL ⊢
  go_enter Tryz.func47, Tryz.ntmps47
  go_wp2_with fail
  refine ci.mono ?_
  clear ci
  rintro e w2 ⟨rfl, hb2⟩
  have HB2 := Lib.hid (HAL.out.trans hb2)
  clear hb2
  go_wp2
  go_ret
  have hzz := HZ.out
  rw [z1, z2, z3] at hzz
  exact ⟨by rw [← hzz]; exact congrArg (fun x => Ending.returned (Value.int .i64 x)) (IntWalk.wrap64_in _ (by omega)), HB2.out⟩
set_option maxRecDepth 100000 in
set_option maxHeartbeats 2000000 in
theorem size_step {N : Nat} (ih : ∀ M, M < N → SizeOk M) : SizeOk N := by
  intro l hN hz v w B hF hB
  obtain ⟨A, c, rfl, hc⟩ := hF.len
  have hlm := szL_len l
  have HF := Lib.hid hF
  have HIH := Lib.hid ih
  clear hF ih
  obtain ⟨n, hn⟩ : ∃ n, l.length = n := ⟨_, rfl⟩
  obtain ⟨mm, hmm⟩ : ∃ mm, szL l = mm := ⟨_, rfl⟩
  have HN := Lib.hid hn
  have HMM := Lib.hid hmm
  simp only [hn, hmm] at hc hlm hN hz HF ⊢
  clear hn hmm
  go_enter Tryz.func25, Tryz.ntmps25
  go_wp2
  go_loopg [3, 4] n (fun q vn vi wr => ∃ k a : Nat, k + q = n ∧ vi = .int .i64 (k : Int) ∧ vn = .int .i64 (a : Int) ∧ a ≤ mm ∧ Hid (a + k = n + szL (l.take k) ∧ Below B w wr))
  case atStart => exact ⟨0, n, by omega, rfl, rfl, hlm, by simp [szL], Below.refl _ _⟩
  case round =>
    obtain ⟨k, a, hk, rfl, rfl, ham, HR⟩ := hrel
    by_cases hlt : k < n
    · obtain ⟨x, hx⟩ : ∃ x, l[k]? = some x := ⟨_, List.getElem?_eq_getElem (by rw [HN.out]; exact hlt)⟩
      obtain ⟨b1, off, kA, kc, rfl, hb1, hkF, p0, p1, p2, p3, p4⟩ := HF.out.at hx
      have hbl := HR.out.2
      replace p0 := (hbl.cell (p := ⟨b1, off + k * 5, none⟩) hb1).trans p0
      replace p1 := (hbl.cell (p := ⟨b1, off + k * 5 + 1, none⟩) hb1).trans p1
      replace p2 := (hbl.cell (p := ⟨b1, off + k * 5 + 2, none⟩) hb1).trans p2
      replace p3 := (hbl.cell (p := ⟨b1, off + k * 5 + 3, none⟩) hb1).trans p3
      replace p4 := (hbl.cell (p := ⟨b1, off + k * 5 + 4, none⟩) hb1).trans p4
      have hgt := sz_get hx
      rw [HMM.out] at hgt
      have hrb := hbl.size
      have htk := szL_take hx
      have hbd : szL (l.take (k + 1)) + n ≤ mm + (k + 1) := by
        have e := szL_app (l.take (k + 1)) (l.drop (k + 1))
        rw [List.take_append_drop, HMM.out] at e
        have h2 := szL_len (l.drop (k + 1))
        rw [List.length_drop, HN.out] at h2
        omega
      have hx1 := sz1_eq x
      have ci := size1_any (HIH.out (szL x.kids) (by omega)) x (Nat.le_refl _) (by omega) _ wr B (hkF.under hbl (fun _ h => h)) (by omega)
      have hsum : a + sz1 x + (k + 1) = n + szL (l.take (k + 1)) := by have := HR.out.1; omega
      have HSM := Lib.hid hsum
      have ham2 : a + sz1 x ≤ mm := by omega
      have ham3 : (a : Int) ≤ 1048576 := by omega
      generalize sz1 x = mk at ci ham2 HSM
      clear hx hkF hbl htk hbd hgt hsum hx1
      go_wp2_with fail
      refine ci.mono ?_
      clear ci
      rintro e w2 ⟨rfl, hb2⟩
      have HB2 := Lib.hid (HR.out.2.trans hb2)
      clear hb2
      go_wp2
      go_roundg (gk - 1)
      case measure => omega
      case rel => exact ⟨k + 1, a + mk, by omega, by go_num, by go_num, ham2, HSM.out, HB2.out⟩
    · obtain rfl : k = n := by omega
      have ha : a = mm := by
        have h1 := HR.out.1
        rw [List.take_of_length_le (by rw [HN.out]; exact Nat.le_refl _), HMM.out] at h1
        omega
      subst ha
      go_wp2
      go_ret
      exact ⟨rfl, HR.out.2⟩
theorem size_any (N : Nat) : SizeOk N := by
  induction N using Nat.strongRecOn with
  | _ N ih => exact size_step ih
def DeepOk (N : Nat) : Prop := ∀ (l : List Sp), manyL l ≤ N → manyL l ≤ 1048576 → ∀ (v : Value) (w : World) (B : Nat), Forest w (· < B) v l → B ≤ w.heap.size →
    Calls Tryz.prog 26 #[v] w fun e w' => e = .returned (.int .i64 (dpL l : Int)) ∧ Below B w w'
mutual
theorem dp_many1 : ∀ x : Sp, dp1 x ≤ many1 x
  | ⟨_, _, _, _, kids⟩ => by have := dp_manyL kids; simp only [dp1, many1]; omega
theorem dp_manyL : ∀ l : List Sp, dpL l ≤ manyL l
  | [] => Nat.le_refl _
  | x :: l => by have := dp_many1 x; have := dp_manyL l; simp only [dpL, manyL]; omega
end
set_option maxRecDepth 100000 in
set_option maxHeartbeats 2000000 in
theorem deep_step {N : Nat} (ih : ∀ M, M < N → DeepOk M) : DeepOk N := by
  intro l hN hm v w B hF hB
  obtain ⟨A, c, rfl, hc⟩ := hF.len
  have hlm := many_len l
  have hdm := dp_manyL l
  have HF := Lib.hid hF
  have HIH := Lib.hid ih
  clear hF ih
  obtain ⟨n, hn⟩ : ∃ n, l.length = n := ⟨_, rfl⟩
  obtain ⟨mm, hmm⟩ : ∃ mm, dpL l = mm := ⟨_, rfl⟩
  have HN := Lib.hid hn
  have HMM := Lib.hid hmm
  simp only [hn, hmm] at hc hlm hdm HF ⊢
  clear hn hmm
  go_enter Tryz.func26, Tryz.ntmps26
  go_wp2
  go_loopg [3, 4] n (fun q vn vi wr => ∃ k a : Nat, k + q = n ∧ vi = .int .i64 (k : Int) ∧ vn = .int .i64 (a : Int) ∧ a ≤ mm ∧ Hid (a = dpL (l.take k) ∧ Below B w wr))
  case atStart => exact ⟨0, 0, by omega, rfl, rfl, Nat.zero_le _, by simp [dpL], Below.refl _ _⟩
  case round =>
    obtain ⟨k, a, hk, rfl, rfl, ham, HR⟩ := hrel
    by_cases hlt : k < n
    · obtain ⟨x, hx⟩ : ∃ x, l[k]? = some x := ⟨_, List.getElem?_eq_getElem (by rw [HN.out]; exact hlt)⟩
      obtain ⟨b1, off, kA, kc, rfl, hb1, hkF, p0, p1, p2, p3, p4⟩ := HF.out.at hx
      have hbl := HR.out.2
      replace p4 := (hbl.cell (p := ⟨b1, off + k * 5 + 4, none⟩) hb1).trans p4
      have hgt := many_get hx
      have hrb := hbl.size
      have htk := dpL_take hx
      have hx1 := dp1_eq x
      have hle := dpL_le (l := l) (k := k + 1)
      rw [HMM.out] at hle
      have ci := HIH.out (manyL x.kids) (by omega) x.kids (Nat.le_refl _) (by omega) _ wr B (hkF.under hbl (fun _ h => h)) (by omega)
      have hsum : max a (1 + dpL x.kids) = dpL (l.take (k + 1)) := by rw [htk, hx1, HR.out.1]
      have HSM := Lib.hid hsum
      have hmx : max a (1 + dpL x.kids) ≤ mm := by omega
      generalize dpL x.kids = dk at ci HSM hmx
      clear hx hkF hbl htk hle hgt hsum hx1 p0 p1 p2 p3
      go_wp2_with fail
      refine ci.mono ?_
      clear ci
      rintro e w2 ⟨rfl, hb2⟩
      have HB2 := Lib.hid (HR.out.2.trans hb2)
      clear hb2
      go_wp2
      go_roundg (gk - 1)
      case measure => omega
      case rel => exact ⟨k + 1, max a (1 + dk), by omega, by go_num, by go_num, hmx, HSM.out, HB2.out⟩
    · obtain rfl : k = n := by omega
      have ha : a = mm := by
        have h1 := HR.out.1
        rw [List.take_of_length_le (by rw [HN.out]; exact Nat.le_refl _), HMM.out] at h1
        exact h1
      subst ha
      go_wp2
      go_ret
      exact ⟨rfl, HR.out.2⟩
theorem deep_any (N : Nat) : DeepOk N := by
  induction N using Nat.strongRecOn with
  | _ N ih => exact deep_step ih
/-- more than is gone through -/
def greatB (l : List Sp) : Bool := decide (1000 < l.length) || (decide (4000 < szL l) || decide (20000 < szL l * dpL l))
set_option maxRecDepth 100000 in
set_option maxHeartbeats 2000000 in
theorem great_any (l : List Sp) (hz : szL l ≤ 1048576) (v : Value) (w : World) (hF : Forest w (· < w.heap.size) v l) :
    Calls Tryz.prog 11 #[v] w fun e w' => e = .returned (.bool (greatB l)) ∧ Below w.heap.size w w' := by
  obtain ⟨A, c, rfl, hc⟩ := hF.len
  have hlm := szL_len l
  have hdm := dp_szL l
  have hms := many_szL l
  have cs := size_any _ l (Nat.le_refl _) hz _ w _ hF (Nat.le_refl _)
  have HF := Lib.hid hF
  have CS := Lib.hid (fun w' h => size_any _ l (Nat.le_refl _) hz (.slice A l.length c) w' _ h (Nat.le_refl w'.heap.size))
  have CD := Lib.hid (fun w' h => deep_any _ l (Nat.le_refl _) (by omega) (.slice A l.length c) w' _ h (Nat.le_refl w'.heap.size))
  have HG : Hid (greatB l = (decide (1000 < l.length) || (decide (4000 < szL l) || decide (20000 < szL l * dpL l)))) := rfl
  obtain ⟨n, hn⟩ : ∃ n, l.length = n := ⟨_, rfl⟩
  simp only [hn] at hc hlm cs HF CS CD HG ⊢
  generalize szL l = z at hz hlm hdm hms cs CS HG
  generalize dpL l = d at hdm CD HG
  clear hn hF hms
  rcases Nat.lt_or_ge 1000 n with h1 | h1
  · have e1 : greatB l = true := by rw [HG.out, decide_eq_true h1]; rfl
    have E1 := Lib.hid e1
    clear e1
    go_enter Tryz.func11, Tryz.ntmps11
    go_wp2
    go_ret
    exact ⟨by rw [E1.out]; rfl, Below.refl _ _⟩
  · rcases Nat.lt_or_ge 4000 z with h2 | h2
    · have e1 : greatB l = true := by rw [HG.out, decide_eq_true h2]; simp
      have E1 := Lib.hid e1
      clear e1
      go_enter Tryz.func11, Tryz.ntmps11
      go_wp2_with fail
      refine cs.mono ?_
      clear cs
      rintro e w2 ⟨rfl, hb2⟩
      have HB2 := Lib.hid hb2
      clear hb2
      go_wp2
      go_ret
      exact ⟨by rw [E1.out]; rfl, HB2.out⟩
    · have e1 : greatB l = decide (20000 < z * d) := by rw [HG.out, decide_eq_false (by omega), decide_eq_false (by omega)]; rfl
      have E1 := Lib.hid e1
      have hzd : z * d ≤ 16000000 := Nat.mul_le_mul (show z ≤ 4000 by omega) (show d ≤ 4000 by omega)
      obtain ⟨P, hP⟩ : ∃ P : Nat, z * d = P := ⟨_, rfl⟩
      have hzd' : (z : Int) * (d : Int) = (P : Int) := by rw [← hP]; push_cast; rfl
      rw [hP] at hzd E1
      clear hP
      clear e1
      go_enter Tryz.func11, Tryz.ntmps11
      go_wp2_with fail
      refine cs.mono ?_
      clear cs
      rintro e w2 ⟨rfl, hb2⟩
      have cs2 := CS.out w2 (Forest.later HF.out hb2)
      have HF2 := Lib.hid (Forest.later HF.out hb2)
      have hs2 := hb2.size
      have HB2 := Lib.hid hb2
      clear hb2
      go_wp2_with fail
      refine cs2.mono ?_
      clear cs2
      rintro e w3 ⟨rfl, hb3⟩
      have cd := CD.out w3 (Forest.later HF2.out hb3)
      have hs3 := hb3.size
      have HB3 := Lib.hid (HB2.out.trans (hb3.mono (by omega)))
      clear hb3
      go_wp2_with fail
      refine cd.mono ?_
      clear cd
      rintro e w4 ⟨rfl, hb4⟩
      have HB4 := Lib.hid (HB3.out.trans (hb4.mono (by omega)))
      clear hb4
      go_wp2
      go_ret
      exact ⟨ret_bool (by rw [E1.out, Bool.eq_iff_iff]; simp; omega), HB4.out⟩
end Go.Proofs.YtgiiglcgfbnaoaaGreatDoor
namespace Go.Proofs.YtgiiglcgfbnaoaaGreatDoor
open Go.RowKit Go.Bd
set_option maxRecDepth 100000 in
set_option maxHeartbeats 8000000 in
theorem spansBack_true (v : Value) (l : List Sp) (s : ByteArray) (m : Int) (w : World) (hm : w.cell? ⟨0, 0, none⟩ = some (.int .i64 m)) (hF : Forest w (· < w.heap.size) v l) (hz : szL l ≤ 1048576) (hs : s.size ≤ 140737488355328) :
    Calls Tryz.prog 4 #[v, .string s] w fun e w' => e = .returned (.bool true) ∧ Below w.heap.size w w' := by
  obtain ⟨A, c, rfl, hc⟩ := hF.len
  have hB : 0 < w.heap.size := World.block_lt_of_cell? w _ hm
  have HM := Lib.hid hm
  have HF := Lib.hid hF
  have ca := alive_any w m hm
  have CG := Lib.hid (fun w' h => great_any l hz (.slice A l.length c) w' h)
  have hlen := szL_len l
  have hwl := wl_szL l
  have hmz := many_szL l
  have HGD : Hid (greatB l = false → szL l ≤ 4000) := fun h => by
    unfold greatB at h
    simp only [Bool.or_eq_false_iff, decide_eq_false_iff_not] at h
    omega
  have CT := Lib.hid (fun w' (h4 : szL l ≤ 4000) hf hc => textSpans_any l (by omega) (by omega) (.slice A l.length c) w' m hf hc)
  have HTB := Lib.hid (fun t (h : textOf l = some t) => textOf_back h)
  have HTL := Lib.hid (fun t (h : textOf l = some t) => put_len h)
  clear hm hF
  obtain ⟨n, hn⟩ : ∃ n, l.length = n := ⟨_, rfl⟩
  have HN := Lib.hid hn
  simp only [hn] at hc hlen HF CG CT ⊢
  clear hn
  by_cases hgo : greatB l = false ∧ s.size ≤ 2000
  · obtain ⟨hgr, hbs⟩ := hgo
    have hz4 := HGD.out hgr
    go_enter Tryz.func4, Tryz.ntmps4
    go_wp2_with fail
    refine ca.mono ?_
    clear ca
    rintro e w1 ⟨rfl, hb1⟩
    have hs1 := hb1.size
    have HB1 := Lib.hid hb1
    have HF1 := Lib.hid (Forest.later HF.out hb1)
    have HC1 := Lib.hid ((hb1.cell (p := ⟨0, 0, none⟩) hB).trans HM.out)
    have cg := CG.out w1 HF1.out
    rw [hgr] at cg
    clear hb1 HGD
    go_wp2_with fail
    refine cg.mono ?_
    clear cg
    rintro e w2 ⟨rfl, hb2⟩
    have hs2 := hb2.size
    have HB2 := Lib.hid (HB1.out.trans (hb2.mono hs1))
    have HF2 := Lib.hid (Forest.later HF1.out hb2)
    have HC2 := Lib.hid ((hb2.cell (p := ⟨0, 0, none⟩) (show 0 < w1.heap.size by omega)).trans HC1.out)
    have ct := CT.out w2 hz4 HF2.out HC2.out
    clear hb2 HF1 HC1
    go_wp2_with fail
    refine ct.mono ?_
    clear ct
    rintro e w3 ⟨rfl, hb3⟩
    have hs3 := hb3.size
    have HB3 := Lib.hid (HB2.out.trans (hb3.mono (by omega)))
    have HF3 := Lib.hid (Forest.later HF2.out hb3)
    have HC3 := Lib.hid ((hb3.cell (p := ⟨0, 0, none⟩) (show 0 < w2.heap.size by omega)).trans HC2.out)
    clear hb3 HF2 HC2
    obtain ⟨to, hto⟩ : ∃ to, textOf l = to := ⟨_, rfl⟩
    rw [hto] at HTB HTL ⊢
    cases to with
    | none =>
      simp only [textSV]
      clear HTB HTL hto
      obtain ⟨wx, hwx⟩ : ∃ x, w3 = x := ⟨_, rfl⟩
      subst hwx
      have hsx : w.heap.size ≤ w3.heap.size := by omega
      have HBX := HB3
      have HCX := HC3
      clear HB3 HC3
      rcases emptyB s with ⟨z1, z2⟩ | ⟨z1, z2⟩
      · have he : s.data.toList = [] := by rw [← ByteArray.toList_eq]; exact z1
        have HE := Lib.hid he
        clear he
        go_wp2_with fail
        refine (text_any s w3).mono ?_
        rintro e wy ⟨rfl, hby⟩
        have hsy := hby.size
        have hft := forest_new_txt wy s.data.toList
        rw [mk_list] at hft
        have ct2 := textSpans_any [txt s.data.toList] (by simp [manyL, many1, txt]) (by rw [HE.out]; simp [wlL, wl1, txt]) _ _ m hft (cellAlloc _ ((hby.cell (p := ⟨0, 0, none⟩) (show 0 < w3.heap.size by omega)).trans HCX.out))
        rw [text_one, HE.out, if_pos rfl] at ct2
        have HBY := Lib.hid ((HBX.out.trans (hby.mono (by omega))).alloc (show w.heap.size ≤ wy.heap.size by omega) (.cells #[.int .u8 0, .string s, .string ⟨#[]⟩, .string ⟨#[]⟩, .slice none 0 0] 33))
        clear hby hft
        go_wp2_with fail
        refine ct2.mono ?_
        clear ct2
        rintro e w6 ⟨rfl, hb6⟩
        have HB6 := Lib.hid (HBY.out.trans (hb6.mono (by simp; omega)))
        clear hb6
        simp only [textSV]
        go_wp2
        go_ret
        exact ⟨rfl, HB6.out⟩
      · have hne : s.data.toList ≠ [] := by rw [← ByteArray.toList_eq]; exact z1
        have HNE := Lib.hid hne
        clear hne
        have hel := esc_len s.data.toList
        rw [← sizeL] at hel
        go_wp2_with fail
        refine (text_any s w3).mono ?_
        rintro e wy ⟨rfl, hby⟩
        have hsy := hby.size
        have hft := forest_new_txt wy s.data.toList
        rw [mk_list] at hft
        have ct2 := textSpans_any [txt s.data.toList] (by simp [manyL, many1, txt]) (by simp [wlL, wl1, txt]; omega) _ _ m hft (cellAlloc _ ((hby.cell (p := ⟨0, 0, none⟩) (show 0 < w3.heap.size by omega)).trans HCX.out))
        rw [text_one, if_neg HNE.out] at ct2
        have HBY := Lib.hid ((HBX.out.trans (hby.mono (by omega))).alloc (show w.heap.size ≤ wy.heap.size by omega) (.cells #[.int .u8 0, .string s, .string ⟨#[]⟩, .string ⟨#[]⟩, .slice none 0 0] 33))
        have HCY := Lib.hid (cellAlloc (.cells #[.int .u8 0, .string s, .string ⟨#[]⟩, .string ⟨#[]⟩, .slice none 0 0] 33) ((hby.cell (p := ⟨0, 0, none⟩) (show 0 < w3.heap.size by omega)).trans HCX.out))
        obtain ⟨eb, heb⟩ : ∃ eb : ByteArray, (⟨(esc s.data.toList).toArray⟩ : ByteArray) = eb := ⟨_, rfl⟩
        have hebl : eb.data.toList = esc s.data.toList := by rw [← heb]
        have hebs : eb.size ≤ 2 * s.size := by rw [sizeL, hebl]; exact hel
        simp only [textSV, heb] at ct2
        have HSE : Hid (faultsOf eb.data.toList = [] ∧ spansOf eb.data.toList = [txt s.data.toList]) := by
          obtain ⟨h1, h2⟩ := spans_esc s.data.toList
          rw [if_neg HNE.out] at h1
          rw [hebl]
          exact ⟨(faultsOf_nil _).2 h2, h1⟩
        clear hby hft hel heb hebl
        go_wp2_with fail
        refine ct2.mono ?_
        clear ct2
        rintro e w6 ⟨rfl, hb6⟩
        have hs6 := hb6.size
        simp only [World.size_alloc] at hs6
        have HB6 := Lib.hid (HBY.out.trans (hb6.mono (by simp; omega)))
        have HC6 := Lib.hid ((hb6.cell (p := ⟨0, 0, none⟩) (show 0 < (wy.alloc _).heap.size by simp)).trans HCY.out)
        clear hb6
        go_wp2_with fail
        refine (text_any s w6).mono ?_
        rintro e w7 ⟨rfl, hb7⟩
        have hs7 := hb7.size
        have hft7 := forest_new_txt w7 s.data.toList
        rw [mk_list] at hft7
        have ci7 := is_any eb [txt s.data.toList] (by omega) HSE.out.1 HSE.out.2 _ _ m hft7 (cellAlloc _ ((hb7.cell (p := ⟨0, 0, none⟩) (show 0 < w6.heap.size by omega)).trans HC6.out))
        have HB7 := Lib.hid ((HB6.out.trans (hb7.mono (by omega))).alloc (show w.heap.size ≤ w7.heap.size by omega) (.cells #[.int .u8 0, .string s, .string ⟨#[]⟩, .string ⟨#[]⟩, .slice none 0 0] 33))
        clear hb7 hft7
        go_wp2_with fail
        refine ci7.mono ?_
        clear ci7
        rintro e w8 ⟨rfl, hb8⟩
        have HB8 := Lib.hid (HB7.out.trans (hb8.mono (by simp; omega)))
        clear hb8
        go_wp2
        go_ret
        exact ⟨rfl, HB8.out⟩
    | some t =>
      obtain ⟨hf0, hsp⟩ := HTB.out t rfl
      have htl := HTL.out t rfl
      obtain ⟨tb, htb⟩ : ∃ tb : ByteArray, (⟨t.toArray⟩ : ByteArray) = tb := ⟨_, rfl⟩
      have htbl : tb.data.toList = t := by rw [← htb]
      have htbs : tb.size = t.length := by rw [sizeL, htbl]
      simp only [textSV, htb]
      have ci := is_any tb l (by omega) (by rw [htbl]; exact (faultsOf_nil _).2 hf0) (by rw [htbl]; exact (sameL_eq _ _).1 hsp) _ w3 m HF3.out HC3.out
      clear htb htbl htbs hf0 hsp htl HTB HTL hto
      go_wp2_with fail
      refine ci.mono ?_
      clear ci
      rintro e w4 ⟨rfl, hb4⟩
      have hs4 := hb4.size
      have hsx : w.heap.size ≤ w4.heap.size := by omega
      have HBX := Lib.hid (HB3.out.trans (hb4.mono (by omega)))
      have HCX := Lib.hid ((hb4.cell (p := ⟨0, 0, none⟩) (show 0 < w3.heap.size by omega)).trans HC3.out)
      clear hb4 HB3 HC3
      rcases emptyB s with ⟨z1, z2⟩ | ⟨z1, z2⟩
      · have he : s.data.toList = [] := by rw [← ByteArray.toList_eq]; exact z1
        have HE := Lib.hid he
        clear he
        go_wp2_with fail
        refine (text_any s w4).mono ?_
        rintro e wy ⟨rfl, hby⟩
        have hsy := hby.size
        have hft := forest_new_txt wy s.data.toList
        rw [mk_list] at hft
        have ct2 := textSpans_any [txt s.data.toList] (by simp [manyL, many1, txt]) (by rw [HE.out]; simp [wlL, wl1, txt]) _ _ m hft (cellAlloc _ ((hby.cell (p := ⟨0, 0, none⟩) (show 0 < w4.heap.size by omega)).trans HCX.out))
        rw [text_one, HE.out, if_pos rfl] at ct2
        have HBY := Lib.hid ((HBX.out.trans (hby.mono (by omega))).alloc (show w.heap.size ≤ wy.heap.size by omega) (.cells #[.int .u8 0, .string s, .string ⟨#[]⟩, .string ⟨#[]⟩, .slice none 0 0] 33))
        clear hby hft
        go_wp2_with fail
        refine ct2.mono ?_
        clear ct2
        rintro e w6 ⟨rfl, hb6⟩
        have HB6 := Lib.hid (HBY.out.trans (hb6.mono (by simp; omega)))
        clear hb6
        simp only [textSV]
        go_wp2
        go_ret
        exact ⟨rfl, HB6.out⟩
      · have hne : s.data.toList ≠ [] := by rw [← ByteArray.toList_eq]; exact z1
        have HNE := Lib.hid hne
        clear hne
        have hel := esc_len s.data.toList
        rw [← sizeL] at hel
        go_wp2_with fail
        refine (text_any s w4).mono ?_
        rintro e wy ⟨rfl, hby⟩
        have hsy := hby.size
        have hft := forest_new_txt wy s.data.toList
        rw [mk_list] at hft
        have ct2 := textSpans_any [txt s.data.toList] (by simp [manyL, many1, txt]) (by simp [wlL, wl1, txt]; omega) _ _ m hft (cellAlloc _ ((hby.cell (p := ⟨0, 0, none⟩) (show 0 < w4.heap.size by omega)).trans HCX.out))
        rw [text_one, if_neg HNE.out] at ct2
        have HBY := Lib.hid ((HBX.out.trans (hby.mono (by omega))).alloc (show w.heap.size ≤ wy.heap.size by omega) (.cells #[.int .u8 0, .string s, .string ⟨#[]⟩, .string ⟨#[]⟩, .slice none 0 0] 33))
        have HCY := Lib.hid (cellAlloc (.cells #[.int .u8 0, .string s, .string ⟨#[]⟩, .string ⟨#[]⟩, .slice none 0 0] 33) ((hby.cell (p := ⟨0, 0, none⟩) (show 0 < w4.heap.size by omega)).trans HCX.out))
        obtain ⟨eb, heb⟩ : ∃ eb : ByteArray, (⟨(esc s.data.toList).toArray⟩ : ByteArray) = eb := ⟨_, rfl⟩
        have hebl : eb.data.toList = esc s.data.toList := by rw [← heb]
        have hebs : eb.size ≤ 2 * s.size := by rw [sizeL, hebl]; exact hel
        simp only [textSV, heb] at ct2
        have HSE : Hid (faultsOf eb.data.toList = [] ∧ spansOf eb.data.toList = [txt s.data.toList]) := by
          obtain ⟨h1, h2⟩ := spans_esc s.data.toList
          rw [if_neg HNE.out] at h1
          rw [hebl]
          exact ⟨(faultsOf_nil _).2 h2, h1⟩
        clear hby hft hel heb hebl
        go_wp2_with fail
        refine ct2.mono ?_
        clear ct2
        rintro e w6 ⟨rfl, hb6⟩
        have hs6 := hb6.size
        simp only [World.size_alloc] at hs6
        have HB6 := Lib.hid (HBY.out.trans (hb6.mono (by simp; omega)))
        have HC6 := Lib.hid ((hb6.cell (p := ⟨0, 0, none⟩) (show 0 < (wy.alloc _).heap.size by simp)).trans HCY.out)
        clear hb6
        go_wp2_with fail
        refine (text_any s w6).mono ?_
        rintro e w7 ⟨rfl, hb7⟩
        have hs7 := hb7.size
        have hft7 := forest_new_txt w7 s.data.toList
        rw [mk_list] at hft7
        have ci7 := is_any eb [txt s.data.toList] (by omega) HSE.out.1 HSE.out.2 _ _ m hft7 (cellAlloc _ ((hb7.cell (p := ⟨0, 0, none⟩) (show 0 < w6.heap.size by omega)).trans HC6.out))
        have HB7 := Lib.hid ((HB6.out.trans (hb7.mono (by omega))).alloc (show w.heap.size ≤ w7.heap.size by omega) (.cells #[.int .u8 0, .string s, .string ⟨#[]⟩, .string ⟨#[]⟩, .slice none 0 0] 33))
        clear hb7 hft7
        go_wp2_with fail
        refine ci7.mono ?_
        clear ci7
        rintro e w8 ⟨rfl, hb8⟩
        have HB8 := Lib.hid (HB7.out.trans (hb8.mono (by simp; omega)))
        clear hb8
        go_wp2
        go_ret
        exact ⟨rfl, HB8.out⟩
  · rcases hgb : greatB l with _ | _
    · have hb2 : 2000 < s.size := by
        rcases Nat.lt_or_ge 2000 s.size with h | h
        · exact h
        · exact absurd ⟨hgb, h⟩ hgo
      clear hgo
      go_enter Tryz.func4, Tryz.ntmps4
      go_wp2_with fail
      refine ca.mono ?_
      clear ca
      rintro e w1 ⟨rfl, hb1⟩
      have hs1 := hb1.size
      have HB1 := Lib.hid hb1
      have cg := CG.out w1 (Forest.later HF.out hb1)
      rw [hgb] at cg
      have HC1 := Lib.hid ((hb1.cell (p := ⟨0, 0, none⟩) hB).trans HM.out)
      clear hb1 HGD hgb
      go_wp2_with fail
      refine cg.mono ?_
      clear cg
      rintro e w2 ⟨rfl, hb2'⟩
      have ca2 := alive_any w2 m ((hb2'.cell (p := ⟨0, 0, none⟩) (show 0 < w1.heap.size by omega)).trans HC1.out)
      have hs2 := hb2'.size
      have HB2 := Lib.hid (HB1.out.trans (hb2'.mono hs1))
      clear hb2'
      go_wp2_with fail
      refine ca2.mono ?_
      clear ca2
      rintro e w3 ⟨rfl, hb3'⟩
      have HB3 := Lib.hid (HB2.out.trans (hb3'.mono (by omega)))
      clear hb3'
      go_wp2
      go_ret
      exact ⟨rfl, HB3.out⟩
    · clear hgo
      go_enter Tryz.func4, Tryz.ntmps4
      go_wp2_with fail
      refine ca.mono ?_
      clear ca
      rintro e w1 ⟨rfl, hb1⟩
      have hs1 := hb1.size
      have HB1 := Lib.hid hb1
      have cg := CG.out w1 (Forest.later HF.out hb1)
      rw [hgb] at cg
      have HC1 := Lib.hid ((hb1.cell (p := ⟨0, 0, none⟩) hB).trans HM.out)
      clear hb1 HGD hgb
      go_wp2_with fail
      refine cg.mono ?_
      clear cg
      rintro e w2 ⟨rfl, hb2'⟩
      have ca2 := alive_any w2 m ((hb2'.cell (p := ⟨0, 0, none⟩) (show 0 < w1.heap.size by omega)).trans HC1.out)
      have hs2 := hb2'.size
      have HB2 := Lib.hid (HB1.out.trans (hb2'.mono hs1))
      clear hb2'
      go_wp2_with fail
      refine ca2.mono ?_
      clear ca2
      rintro e w3 ⟨rfl, hb3'⟩
      have HB3 := Lib.hid (HB2.out.trans (hb3'.mono (by omega)))
      clear hb3'
      go_wp2
      go_ret
      exact ⟨rfl, HB3.out⟩
end Go.Proofs.YtgiiglcgfbnaoaaGreatDoor
namespace Go.Bd
open Go.ChangeShapes Go.WideShapes
section
variable {H : Type} {enc : TypeId × Value → H} {P : Program} {w : World} {base : Nat} {sp : Nat → Bool} {held : Bool}
theorem take_drop_one {cs : List Value} {i : Nat} (h : i < cs.length) : (cs.drop i).take 1 = [cs[i]] := by
  rw [List.drop_eq_getElem_cons h]; rfl
/-- the cells of one struct of fields of one cell -/
theorem open_fields {e : TypeId} {fs : Array Field} {a : Addr} {cs : List Value} {fuel : Nat} {x : DataW H × List MemPlace} (he : P.underlying e = some (.struct fs)) (hc : P.cellsOf e = fs.size)
    (ho : ∀ (i : Nat) f, fs[i]? = some f → f.offset = i ∧ P.cellsOf f.type = 1) (h1 : w.cells? base a (P.cellsOf e) = some cs) (h2 : DataW.trod enc P w base sp held fuel e cs = some x) :
    ∃ (m : Nat) (V : Nat → Value) (D : Nat → DataW H × List MemPlace), x.1 = .agg ((List.range fs.size).map fun i => (D i).1) ∧ ∀ (i : Nat) f, fs[i]? = some f → w.cell? (a.add i) = some (V i) ∧ DataW.trod enc P w base sp held m f.type [V i] = some (D i) := by
  obtain ⟨_, hlen, hcell⟩ := World.cells?_some h1
  obtain ⟨xs, k, hk, hxy, hcl, hxl, hf⟩ := DataW.trod_struct he h2
  refine ⟨k, fun i => cs.getD i (.int .i64 0), fun i => xs.getD i (.nil, []), ?_, fun i f hif => ?_⟩
  · rw [hxy]
    show DataW.agg _ = _
    congr 1
    rw [Deep.map_by_index xs (.nil, []) (·.1), hxl]
  · obtain ⟨o, c⟩ := ho i f hif
    have hi : i < fs.size := (Array.getElem?_eq_some_iff.1 hif).1
    have hic : i < cs.length := by omega
    have hix : i < xs.length := by omega
    have g := hf i f hif
    rw [o, c, take_drop_one hic, List.getElem?_eq_getElem hix] at g
    have hce := hcell i (by omega)
    refine ⟨?_, ?_⟩
    · rw [hce]
      simp [List.getD, List.getElem?_eq_getElem hic]
    · simp only [List.getD, List.getElem?_eq_getElem hic, List.getElem?_eq_getElem hix, Option.getD_some]
      exact g
theorem open_addr {w : World} {a : Addr} {v : Value} (h : w.cell? (a.add 0) = some v) : ∃ b off, a = ⟨b, off, none⟩ ∧ b < w.heap.size := by
  obtain ⟨b, off, spot⟩ := a
  have e : (⟨b, off, spot⟩ : Addr).add 0 = ⟨b, off, spot⟩ := by simp [Addr.add]
  rw [e] at h
  refine ⟨b, off, ?_, World.block_lt_of_cell? w _ h⟩
  cases spot with
  | none => rfl
  | some s =>
    exfalso
    simp only [World.cell?] at h
    split at h <;> simp at h
end
end Go.Bd
namespace Go.Proofs.YtgiiglcgfbnaoaaGreatDoor
open Go.ChangeShapes Go.WideShapes Go.RowKit Go.Bd
theorem bulk_map {H : Type} {α : Type} {S : α → Sp} {D : α → DataW H} : ∀ {r : List α}, (∀ i ∈ r, sz1 (S i) + 1 ≤ Rows.uptoBulk (D i)) → szL (r.map S) ≤ Rows.uptoBulkAll (r.map D)
  | [], _ => Nat.le_refl _
  | i :: r, h => by
    have h1 := h i (List.mem_cons_self ..)
    have h2 := bulk_map (r := r) fun j hj => h j (List.mem_cons_of_mem _ hj)
    simp only [List.map_cons, szL, Rows.uptoBulkAll]
    omega
theorem bulk_at {H : Type} {α : Type} {D : α → DataW H} : ∀ {r : List α} {i : α}, i ∈ r → Rows.uptoBulk (D i) ≤ Rows.uptoBulkAll (r.map D)
  | j :: r, i, h => by
    simp only [List.map_cons, Rows.uptoBulkAll]
    rcases List.mem_cons.1 h with rfl | h
    · omega
    · have := bulk_at (D := D) h; omega
theorem byte_back (s : ByteArray) : (⟨s.data.toList.toArray⟩ : ByteArray) = s := by simp
section
variable {H : Type} {enc : TypeId × Value → H} {w : World} {sp : Nat → Bool} {held : Bool}
set_option maxRecDepth 100000 in
theorem open_spans_cells : ∀ (N : Nat) {fuel : Nat} {cs : List Value} {x : DataW H × List MemPlace}, Rows.uptoBulk x.1 ≤ N → DataW.trod enc Tryz.prog w 0 sp held fuel 22 cs = some x →
    ∃ v l, cs = [v] ∧ Forest w (· < w.heap.size) v l ∧ szL l + 1 ≤ Rows.uptoBulk x.1 := by
  intro N
  induction N with
  | zero =>
    intro fuel cs x hN _
    exfalso
    have : 1 ≤ Rows.uptoBulk x.1 := by
      cases x.1 with
      | lit l => cases l <;> simp [Rows.uptoBulk]
      | _ => simp [Rows.uptoBulk]
    omega
  | succ N ih =>
    intro fuel cs x hN h
    rcases Deep.open_slice (e := 33) Tryz.underlying22 h with ⟨rfl, rfl⟩ | ⟨a, len, cap, m, n, D, Pl, rfl, _, hl, _, hmm, rfl, hx⟩
    · exact ⟨_, [], rfl, Forest.nil _ _, by simp [szL, Rows.uptoBulk]⟩
    · have hlm : len ≤ m := by rw [hmm]; split <;> omega
      have hc5 : Tryz.prog.cellsOf 33 = 5 := by kernel_rfl
      have hN' : Rows.uptoBulkAll ((List.range len).map D) + 1 ≤ N + 1 := by
        simp only [Rows.uptoBulk] at hN; omega
      have each : ∀ i, i < len → ∃ q : Sp × Value, (∀ (j : Nat) u, (spCells q.1 q.2)[j]? = some u → w.cell? ((a.add (i * 5)).add j) = some u) ∧ Forest w (· < w.heap.size) q.2 q.1.kids ∧ sz1 q.1 + 1 ≤ Rows.uptoBulk (D i) := by
        intro i hi
        obtain ⟨cs', h1, h2⟩ := hx i (by omega)
        rw [hc5] at h1
        obtain ⟨k, V, DD, hag, hf⟩ := open_fields Tryz.underlying33 (by rw [hc5]; rfl) (fun i f hif => by
          have hi' : i < 5 := (Array.getElem?_eq_some_iff.1 hif).1
          match i, hi' with
          | 0, _ => obtain rfl := Option.some.inj hif; exact ⟨rfl, by kernel_rfl⟩
          | 1, _ => obtain rfl := Option.some.inj hif; exact ⟨rfl, by kernel_rfl⟩
          | 2, _ => obtain rfl := Option.some.inj hif; exact ⟨rfl, by kernel_rfl⟩
          | 3, _ => obtain rfl := Option.some.inj hif; exact ⟨rfl, by kernel_rfl⟩
          | 4, _ => obtain rfl := Option.some.inj hif; exact ⟨rfl, by kernel_rfl⟩) (by rw [hc5]; exact h1) h2
        obtain ⟨c0, g0⟩ := hf 0 _ rfl
        obtain ⟨c1, g1⟩ := hf 1 _ rfl
        obtain ⟨c2, g2⟩ := hf 2 _ rfl
        obtain ⟨c3, g3⟩ := hf 3 _ rfl
        obtain ⟨c4, g4⟩ := hf 4 _ rfl
        obtain ⟨z, e0, d0, w0⟩ := DataW.trod_int Tryz.underlying31 g0
        obtain ⟨s1, e1, d1, _⟩ := DataW.trod_string Tryz.underlying9 g1
        obtain ⟨s2, e2, d2, _⟩ := DataW.trod_string Tryz.underlying9 g2
        obtain ⟨s3, e3, d3, _⟩ := DataW.trod_string Tryz.underlying9 g3
        simp only [List.cons.injEq, and_true] at e0 e1 e2 e3
        have hsum : Rows.uptoBulk (D i) = 1 + (Rows.uptoBulk (DD 0).1 + (Rows.uptoBulk (DD 1).1 + (Rows.uptoBulk (DD 2).1 + (Rows.uptoBulk (DD 3).1 + Rows.uptoBulk (DD 4).1)))) := by
          have hag' : D i = .agg [(DD 0).1, (DD 1).1, (DD 2).1, (DD 3).1, (DD 4).1] := hag
          rw [hag']
          simp only [Rows.uptoBulk, Rows.uptoBulkAll]
          omega
        have hbi := bulk_at (D := D) (r := List.range len) (List.mem_range.2 hi)
        obtain ⟨v, l, e4, hfo, hsz⟩ := ih (x := DD 4) (by omega) g4
        simp only [List.cons.injEq, and_true] at e4
        have hz : 0 ≤ z := by have : 0 ≤ z ∧ z ≤ 255 := by simpa [Lit.wf, IntKind.min, IntKind.max, IntKind.signed, IntKind.bits] using w0
                              exact this.1
        rw [d0, d1, d2, d3] at hsum
        simp only [Rows.uptoBulk] at hsum
        refine ⟨(⟨z.toNat, s1.data.toList, s2.data.toList, s3.data.toList, l⟩, v), fun j u hu => ?_, hfo, ?_⟩
        · match j, hu with
          | 0, hu => simp only [spCells, List.getElem?_cons_zero, Option.some.injEq] at hu; rw [← hu, c0, e0, Int.toNat_of_nonneg hz]
          | 1, hu => simp only [spCells, List.getElem?_cons_succ, List.getElem?_cons_zero, Option.some.injEq] at hu; rw [← hu, c1, e1, strV, byte_back]
          | 2, hu => simp only [spCells, List.getElem?_cons_succ, List.getElem?_cons_zero, Option.some.injEq] at hu; rw [← hu, c2, e2, strV, byte_back]
          | 3, hu => simp only [spCells, List.getElem?_cons_succ, List.getElem?_cons_zero, Option.some.injEq] at hu; rw [← hu, c3, e3, strV, byte_back]
          | 4, hu => simp only [spCells, List.getElem?_cons_succ, List.getElem?_cons_zero, Option.some.injEq] at hu; rw [← hu, c4, e4]
          | j + 5, hu => simp [spCells] at hu
        · simp only [sz1_eq]
          omega
      haveI : Inhabited (Sp × Value) := ⟨(⟨0, [], [], [], []⟩, .slice none 0 0)⟩
      obtain ⟨S, hS⟩ := Deep.choose_lt each
      have hlen : ((List.range len).map fun i => (S i).1).length = len := by simp
      refine ⟨_, (List.range len).map fun i => (S i).1, rfl, ?_, ?_⟩
      · have hF : Forest w (· < w.heap.size) (.slice (some a) ((List.range len).map fun i => (S i).1).length cap) ((List.range len).map fun i => (S i).1) := by
          refine .mk (some a) cap _ ((List.range len).map fun i => (S i).2) (by simp) (by rw [hlen]; exact hl) (fun hn => ?_) (fun j x kv h1 h2 => ?_)
          · have h0 : 0 < len := by
              rcases Nat.eq_zero_or_pos len with h | h
              · subst h; exact absurd rfl hn
              · exact h
            have := (hS 0 h0).1 0 _ rfl
            rw [Nat.zero_mul, Deep.add_add] at this
            obtain ⟨b, off, rfl, hb⟩ := open_addr this
            refine ⟨b, off, rfl, hb, fun j x kv h1 h2 i u hu => ?_⟩
            have hj : j < len := by have := (List.getElem?_eq_some_iff.1 h1).1; simpa using this
            rw [List.getElem?_map, List.getElem?_range hj] at h1 h2
            simp only [Option.map_some, Option.some.injEq] at h1 h2
            subst h1 h2
            have hc := (hS j hj).1 i u hu
            rw [Deep.add_add, Addr.add_lit] at hc
            rw [Nat.add_assoc]; exact hc
          · have hj : j < len := by have := (List.getElem?_eq_some_iff.1 h1).1; simpa using this
            rw [List.getElem?_map, List.getElem?_range hj] at h1 h2
            simp only [Option.map_some, Option.some.injEq] at h1 h2
            subst h1 h2
            exact (hS j hj).2.1
        rw [hlen] at hF
        exact hF
      · have h1 := bulk_map (S := fun i => (S i).1) (D := D) (r := List.range len) fun i hi => (hS i (List.mem_range.1 hi)).2.2
        simp only [Rows.uptoBulk]
        omega
end
set_option maxRecDepth 100000 in
theorem open_spans {H : Type} {enc : TypeId × Value → H} {W : World} {base : Nat} {sp : Nat → Bool} {hd : Bool} {v : Value} {d : DataW H} {p : List MemPlace}
    (hv : Value.okWide Tryz.prog W .any base 22 v) (h : DataW.Trod enc Tryz.prog W 0 sp hd 22 v d p) :
    ∃ l, Forest W (· < W.heap.size) v l ∧ szL l + 1 ≤ Rows.uptoBulk d := by
  obtain ⟨A, l, c, rfl⟩ := okWide_slice Tryz.underlying22 hv
  obtain ⟨fuel, hf⟩ := h
  obtain ⟨v, ls, h1, h2, h3⟩ := open_spans_cells _ (Nat.le_refl _) hf
  simp only [Value.cells, List.cons.injEq, and_true] at h1
  subst h1
  exact ⟨ls, h2, h3⟩
end Go.Proofs.YtgiiglcgfbnaoaaGreatDoor
namespace Go.Proofs.YtgiiglcgfbnaoaaGreatDoor.spansBack
open Go.ChangeShapes Go.WideShapes Go.ChangeAt Go.RowKit Go.Bd Go.WideMaps Go.WideElems
open Go.ChangeMaps (open_string shut_string)
set_option maxRecDepth 100000 in
theorem contract (H : Type) (enc : TypeId × Value → H) (W : World) (base : Nat) (args : Array Value) (ds gs : List (DataW H)) (before : List MemPlace)
    (hval : ∀ (j : Nat) t v, Tryz.f4.params[j]? = some t → args[j]? = some v → Value.okWide Tryz.prog W .any base t v)
    (hW : DataW.Whole enc Tryz.prog Tryz.f4.params.toList Rows.spansBackSpec.vars false W args.toList ds gs before) (hsh : W.ShapedOpen Tryz.prog)
    (hsz : (DataW.weightsEach Tryz.prog (Tryz.f4.params.toList ++ (OpenSpec.ofChange Rows.spansBackSpec).bare.plain.varTypes Tryz.prog) (ds ++ gs)).all (· ≤ reachBytes) = true) (hk : Rows.uptoSmall H (ds ++ gs) = true) :
    Calls Tryz.prog 4 args W fun e W' => ∃ v, e = .returned v ∧ Rows.spansBackSpec.post enc Tryz.prog Tryz.f4 false true false false W args v W' := by
  obtain ⟨m, hm⟩ := maxLen_cell W hsh
  have hW' := hW
  obtain ⟨p, q, hA0, hV, rfl, hfz, hnd⟩ := hW
  have hA : DataW.TrodAll enc Tryz.prog W 0 (fun _ => true) true Tryz.f4.params.toList args.toList ds p := hA0
  rw [Tryz.params4] at hA hval hsz
  obtain ⟨v0, vs0, d0, ds0, p0, q0, hargs, rfl, rfl, h0, r0⟩ := trodAll_cons hA
  obtain ⟨v1, vs1, d1, ds1, p1, q1, rfl, rfl, rfl, h1, r1⟩ := trodAll_cons r0
  obtain ⟨rfl, rfl, rfl⟩ := trodAll_nil r1
  obtain rfl : args = #[v0, v1] := by cases args; simp_all
  obtain ⟨rfl, rfl⟩ := trodVars_none hV
  have hk' := of_decide_eq_true hk
  simp only [List.append_nil, Rows.uptoBulkAll] at hk'
  obtain ⟨l0, hF0, zz0⟩ := open_spans (hval 0 22 v0 rfl rfl) h0
  obtain ⟨s1, rfl, rfl, rfl, hs1⟩ := open_string Tryz.underlying9 (hval 1 9 v1 rfl rfl) h1
  have b1 : s1.size ≤ 140737488355328 := by
    have := sized_string hsz (j := 1) (t := 9) (bytes := s1.data.toList) rfl rfl
    rw [size_list]; unfold reachBytes at this; omega
  refine (spansBack_true v0 l0 s1 m W hm hF0 (by omega) b1).mono fun e W' ⟨he, hg⟩ => ?_
  subst he
  exact law_post hW' hg laidOut (by rw [Tryz.params4]; intro t ht; simp at ht; rcases ht with rfl | rfl <;> exact ⟨by kernel_rfl, of_decide_eq_true (by kernel_rfl)⟩) rfl rfl (by kernel_rfl) Tryz.underlying4
theorem laid_met (os : Os) : laidMet Tryz.prog Rows.spansBackUptoRow.laid ((laidWorld os).forCall (fun _ _ => 0) ⟨#[], #[.slice none 0 0, .string ⟨#[]⟩], []⟩).memory :=
  laidMet_of_run' 8 (by kernel_rfl) (by kernel_rfl)
theorem reads (os : Os) {H : Type} (enc : TypeId × Value → H) : ∃ places, DataW.whole enc Tryz.prog ((laidWorld os).forCall (fun _ _ => 0) ⟨#[], #[.slice none 0 0, .string ⟨#[]⟩], []⟩).memory Tryz.f4.params.toList Rows.spansBackSpec.vars false (#[.slice none 0 0, .string ⟨#[]⟩] : Array Value).toList 8 = some ([.nil, .lit (.string [])], [], places) :=
  ⟨[], by kernel_rfl⟩
set_option maxRecDepth 100000 in
theorem lifted (os : Os) (started : os.Started) (H : Type) (enc : TypeId × Value → H) (F : Stop.Interp) :
    ReturnsInHanded {} Tryz.checked os 4 .any ((Rows.OpenSpec.upto Rows.spansBackSpec).preRow enc Tryz.prog Tryz.f4 Rows.spansBackUptoRow.domain false Rows.spansBackUptoRow.laid) (((Rows.OpenSpec.upto Rows.spansBackSpec).at F).post enc Tryz.prog Tryz.f4 false true false false) := by
  obtain ⟨places, hx⟩ := reads os enc
  refine returnsInHanded_of_row (C := Tryz.checked) (s := Rows.OpenSpec.upto Rows.spansBackSpec) own started (by kernel_rfl) Tryz.func4
    (witness_row_at (enc := enc) (C := Tryz.checked) false (laidWorld os) #[.slice none 0 0, .string ⟨#[]⟩] rfl (by kernel_rfl) (by kernel_rfl) (by kernel_rfl)
      (OpenSpec.preRow_of_cond 8 hx (by kernel_rfl) (fun k hk => by cases hk; kernel_rfl) (by kernel_rfl) (laid_met os))) ?_
  intro W base args ds gs before hval hW _ hcond hsz _ hsh _
  exact contract H enc W base args ds gs before hval hW hsh hsz (hcond _ rfl)
theorem said : Rows.SpansBackUptoSaid :=
  OpenClaim.holds_of_cond 4 Tryz.f4 rfl rfl rfl rfl rfl rfl rfl ⟨rfl, rfl, rfl, rfl, rfl⟩ rfl rfl rfl rfl rfl (by kernel_rfl) Tryz.func4 (by kernel_rfl)
    (of_decide_eq_true (by kernel_rfl)) (by unfold Func.isWrapper; first | (rw [if_pos (by decide +kernel)]; kernel_rfl) | (rw [if_neg (by decide +kernel)]; exact ⟨rfl, rfl⟩))
    (fun os started H enc _ F => by rw [OpenClaim.pre_eq_preRow]; exact lifted os started H enc F)
theorem plain (f : FuncId) (fn : Func) (hf : Tryz.pinned.checked.prog.funcNamed Tryz.f4.name = some f) (hfn : Tryz.pinned.checked.prog.funcs[f]? = some fn) :
    false = Tryz.pinned.checked.prog.looks [] ∧ ∀ (j : Nat) t, fn.params[j]? = some t → Tryz.pinned.checked.prog.wantsStandIn t = false := by
  obtain rfl : f = 4 := Option.some.inj ((show Tryz.prog.funcNamed Tryz.f4.name = some 4 by kernel_rfl).symm.trans hf) |>.symm
  obtain rfl : fn = Tryz.f4 := (Option.some.inj (Tryz.func4.symm.trans hfn)).symm
  refine ⟨by kernel_rfl, fun j t ht => ?_⟩
  rw [Tryz.params4] at ht
  have hmem := Array.mem_of_getElem? ht
  simp at hmem
  rcases hmem with rfl | rfl
  · exact (show Tryz.prog.wantsStandIn 22 = false by kernel_rfl)
  · exact (show Tryz.prog.wantsStandIn 9 = false by kernel_rfl)
theorem card : Rows.SpansBackUptoCardSaid :=
  Claim7.holds_tied_plain_at .later [] _ _ _ _ said (fun _ h => by cases h) (by kernel_rfl) (fun _ h => by cases h) spansBackUpto_row_tie rfl ⟨rfl, rfl⟩ (by kernel_rfl) rfl plain (by kernel_rfl)
end Go.Proofs.YtgiiglcgfbnaoaaGreatDoor.spansBack
