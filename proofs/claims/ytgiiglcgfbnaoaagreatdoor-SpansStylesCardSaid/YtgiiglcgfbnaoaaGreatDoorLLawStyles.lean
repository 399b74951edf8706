/-
  The law SpansStyles: for every input it answers true, and the input reads as it did: the row, and its card. Its conditions: those of the given row alone.
-/
import Derived.Deep.Slices
import Derived.ChangeArms
import Derived.WideShapes
import Derived.SizedLaws
import Derived.Test.YtgiiglcgfbnaoaaGreatDoorK4
set_option linter.unusedSimpArgs false
set_option linter.unusedVariables false
namespace Go.Proofs.YtgiiglcgfbnaoaaGreatDoor
open Go.RowKit Go.Bd
theorem plain_or_sign (c : UInt8) : c = 42 ∨ c = 95 ∨ c = 96 ∨ c = 60 ∨ c = 40 ∨ c = 94 ∨ c = 93 ∨ c = 92 ∨ plainC c = true := by
  unfold plainC
  by_cases h1 : c = 42; · exact .inl h1
  by_cases h2 : c = 95; · exact .inr (.inl h2)
  by_cases h3 : c = 96; · exact .inr (.inr (.inl h3))
  by_cases h4 : c = 60; · exact .inr (.inr (.inr (.inl h4)))
  by_cases h5 : c = 40; · exact .inr (.inr (.inr (.inr (.inl h5))))
  by_cases h6 : c = 94; · exact .inr (.inr (.inr (.inr (.inr (.inl h6)))))
  by_cases h7 : c = 93; · exact .inr (.inr (.inr (.inr (.inr (.inr (.inl h7))))))
  by_cases h8 : c = 92; · exact .inr (.inr (.inr (.inr (.inr (.inr (.inr (.inl h8)))))))
  refine .inr (.inr (.inr (.inr (.inr (.inr (.inr (.inr ?_)))))))
  simp [h1, h2, h3, h4, h5, h6, h7, h8]
theorem all_snoc {s : ByteArray} {k : Nat} (hk : k < s.size) {p : UInt8 → Bool} (h : (s.data.toList.take k).all p = true) (hp : p s[k] = true) : (s.data.toList.take (k + 1)).all p = true := by
  have hl : k < s.data.toList.length := by simpa using hk
  rw [List.take_add_one, List.all_append, h, List.getElem?_eq_getElem hl]
  have e : s[k] = s.data.toList[k] := rfl
  rw [e] at hp
  simp only [Option.toList_some, List.all_cons, List.all_nil, Bool.and_true, Bool.true_and]
  exact hp
theorem mk_list (s : ByteArray) : (⟨s.data.toList.toArray⟩ : ByteArray) = s := by simp
set_option maxRecDepth 100000 in
set_option maxHeartbeats 4000000 in
theorem spansNone_true (s : ByteArray) (m : Int) (w : World) (hm : w.cell? ⟨0, 0, none⟩ = some (.int .i64 m)) (hs : s.size ≤ 140737488355328) :
    Calls Tryz.prog 5 #[.string s] w fun e w' => e = .returned (.bool true) ∧ Below w.heap.size w w' := by
  have hB : 0 < w.heap.size := World.block_lt_of_cell? w _ hm
  have HM := Lib.hid hm
  have ca := alive_any w m hm
  clear hm
  by_cases hbig : s.size ≤ 20000
  · rcases emptyB s with ⟨z1, z2⟩ | ⟨z1, z2⟩
    all_goals
      go_enter Tryz.func5, Tryz.ntmps5
      go_wp2_with fail
      refine ca.mono ?_
      clear ca
      rintro e w1 ⟨rfl, hb1⟩
      have HB1 := Lib.hid hb1
      have hs1 := hb1.size
      clear hb1
      go_wp2
      go_loopg [3] s.size (fun q i wr => wr = w1 ∧ ∃ k : Nat, k + q = s.size ∧ i = .int .i64 (k : Int) ∧ Hid ((s.data.toList.take k).all plainC = true))
      case atStart => exact ⟨rfl, 0, by omega, rfl, (rfl : (s.data.toList.take 0).all plainC = true)⟩
      case round =>
        obtain ⟨rfl, k, hk, rfl, HP⟩ := hrel
        by_cases hlt : k < s.size
        · rcases plain_or_sign s[k] with h | h | h | h | h | h | h | h | h
          case inr.inr.inr.inr.inr.inr.inr.inr =>
            have HP2 := Lib.hid (all_snoc hlt HP.out h)
            obtain ⟨n1, n2, n3, n4, n5, n6, n7, n8⟩ := plain_ne h
            have q1 := neB (d := 42) (k := 42) rfl n1
            have q2 := neB (d := 95) (k := 95) rfl n2
            have q3 := neB (d := 60) (k := 60) rfl n3
            have q4 := neB (d := 40) (k := 40) rfl n4
            have q5 := neB (d := 94) (k := 94) rfl n5
            have q6 := neB (d := 93) (k := 93) rfl n6
            have q7 := neB (d := 92) (k := 92) rfl n7
            have q8 := neB (d := 96) (k := 96) rfl n8
            clear h n1 n2 n3 n4 n5 n6 n7 n8
            go_wp2
            go_roundg (gk - 1)
            case measure => omega
            case rel => exact ⟨rfl, k + 1, by omega, by go_num, HP2.out⟩
          case inl =>
            have q0 := isB (d := 42) (k := 42) rfl h
            clear h
            go_wp2
            go_ret
            exact ⟨rfl, HB1.out⟩
          case inr.inl =>
            have q0 := neB (c := s[k]) (d := 42) (k := 42) rfl (by rw [h]; decide)
            have q1 := isB (d := 95) (k := 95) rfl h
            clear h
            go_wp2
            go_ret
            exact ⟨rfl, HB1.out⟩
          case inr.inr.inl =>
            have q0 := neB (c := s[k]) (d := 42) (k := 42) rfl (by rw [h]; decide)
            have q1 := neB (c := s[k]) (d := 95) (k := 95) rfl (by rw [h]; decide)
            have q2 := isB (d := 96) (k := 96) rfl h
            clear h
            go_wp2
            go_ret
            exact ⟨rfl, HB1.out⟩
          case inr.inr.inr.inl =>
            have q0 := neB (c := s[k]) (d := 42) (k := 42) rfl (by rw [h]; decide)
            have q1 := neB (c := s[k]) (d := 95) (k := 95) rfl (by rw [h]; decide)
            have q2 := neB (c := s[k]) (d := 96) (k := 96) rfl (by rw [h]; decide)
            have q3 := isB (d := 60) (k := 60) rfl h
            clear h
            go_wp2
            go_ret
            exact ⟨rfl, HB1.out⟩
          case inr.inr.inr.inr.inl =>
            have q0 := neB (c := s[k]) (d := 42) (k := 42) rfl (by rw [h]; decide)
            have q1 := neB (c := s[k]) (d := 95) (k := 95) rfl (by rw [h]; decide)
            have q2 := neB (c := s[k]) (d := 96) (k := 96) rfl (by rw [h]; decide)
            have q3 := neB (c := s[k]) (d := 60) (k := 60) rfl (by rw [h]; decide)
            have q4 := isB (d := 40) (k := 40) rfl h
            clear h
            go_wp2
            go_ret
            exact ⟨rfl, HB1.out⟩
          case inr.inr.inr.inr.inr.inl =>
            have q0 := neB (c := s[k]) (d := 42) (k := 42) rfl (by rw [h]; decide)
            have q1 := neB (c := s[k]) (d := 95) (k := 95) rfl (by rw [h]; decide)
            have q2 := neB (c := s[k]) (d := 96) (k := 96) rfl (by rw [h]; decide)
            have q3 := neB (c := s[k]) (d := 60) (k := 60) rfl (by rw [h]; decide)
            have q4 := neB (c := s[k]) (d := 40) (k := 40) rfl (by rw [h]; decide)
            have q5 := isB (d := 94) (k := 94) rfl h
            clear h
            go_wp2
            go_ret
            exact ⟨rfl, HB1.out⟩
          case inr.inr.inr.inr.inr.inr.inl =>
            have q0 := neB (c := s[k]) (d := 42) (k := 42) rfl (by rw [h]; decide)
            have q1 := neB (c := s[k]) (d := 95) (k := 95) rfl (by rw [h]; decide)
            have q2 := neB (c := s[k]) (d := 96) (k := 96) rfl (by rw [h]; decide)
            have q3 := neB (c := s[k]) (d := 60) (k := 60) rfl (by rw [h]; decide)
            have q4 := neB (c := s[k]) (d := 40) (k := 40) rfl (by rw [h]; decide)
            have q5 := neB (c := s[k]) (d := 94) (k := 94) rfl (by rw [h]; decide)
            have q6 := isB (d := 93) (k := 93) rfl h
            clear h
            go_wp2
            go_ret
            exact ⟨rfl, HB1.out⟩
          case inr.inr.inr.inr.inr.inr.inr.inl =>
            have q0 := neB (c := s[k]) (d := 42) (k := 42) rfl (by rw [h]; decide)
            have q1 := neB (c := s[k]) (d := 95) (k := 95) rfl (by rw [h]; decide)
            have q2 := neB (c := s[k]) (d := 96) (k := 96) rfl (by rw [h]; decide)
            have q3 := neB (c := s[k]) (d := 60) (k := 60) rfl (by rw [h]; decide)
            have q4 := neB (c := s[k]) (d := 40) (k := 40) rfl (by rw [h]; decide)
            have q5 := neB (c := s[k]) (d := 94) (k := 94) rfl (by rw [h]; decide)
            have q6 := neB (c := s[k]) (d := 93) (k := 93) rfl (by rw [h]; decide)
            have q7 := isB (d := 92) (k := 92) rfl h
            clear h
            go_wp2
            go_ret
            exact ⟨rfl, HB1.out⟩
        · obtain rfl : k = s.size := by omega
          have hpl : s.data.toList.all plainC = true := by
            have h := HP.out
            rw [List.take_of_length_le (by simp)] at h
            exact h
          obtain ⟨he, hf⟩ := spans_plain hpl
          have hf2 : faultsOf s.data.toList = [] := (faultsOf_nil _).2 hf
          have hc1 := (HB1.out.cell (p := ⟨0, 0, none⟩) hB).trans HM.out
          first
          | (rw [ByteArray.toList_eq] at z1
             rw [if_pos z1] at he
             have ci := is_any s [] (by omega) hf2 he (.slice none 0 0) wr m (Forest.nil _ _) hc1
             clear he hf hf2 hpl hc1 HP
             rw [← ByteArray.toList_eq] at z1
             go_wp2_with fail
             refine ci.mono ?_
             clear ci
             rintro e w2 ⟨rfl, hb2⟩
             have HB2 := Lib.hid (HB1.out.trans (hb2.mono hs1))
             clear hb2
             go_wp2
             go_ret
             exact ⟨rfl, HB2.out⟩)
          | (have z3 : s.data.toList ≠ [] := by rw [← ByteArray.toList_eq]; exact z1
             rw [if_neg z3] at he
             have cp := parseSpans_any s wr (by omega) m hc1
             have HE := Lib.hid he
             have HF2 := Lib.hid hf2
             have HC1 := Lib.hid hc1
             clear he hf hf2 hpl hc1 HP z3
             go_wp2_with fail
             refine cp.mono ?_
             clear cp
             rintro e w2 ⟨sv, fv, rfl, hb2, hf2, hr2⟩
             obtain ⟨Af, cf, rfl, _⟩ := own_slice2 hr2
             have hs2 := hb2.size
             rw [HE.out] at hf2
             obtain ⟨A2, c2, rfl, _⟩ := hf2.len
             have HFO := Lib.hid hf2
             have HB2 := Lib.hid (HB1.out.trans (hb2.mono hs1))
             clear hb2 hf2 hr2
             go_wp2_with fail
             refine (text_any s w2).mono ?_
             rintro e w3 ⟨rfl, hb3⟩
             have hs3 := hb3.size
             have hB3 : Below w.heap.size w w3 := HB2.out.trans (hb3.mono (by omega))
             have hfo3 : Forest w3 (· < w3.heap.size) (.slice A2 [txt s.data.toList].length c2) [txt s.data.toList] := (HFO.out.under hb3 (fun _ h => h)).keep (fun b hb => by omega) (fun _ _ _ h => h)
             have hft := forest_new_txt w3 s.data.toList
             rw [mk_list] at hft
             have ci := is_any s [txt s.data.toList] (by omega) HF2.out HE.out _ _ m hft ((cellAlloc _ ((hB3.cell (p := ⟨0, 0, none⟩) hB).trans HM.out)))
             have HB3 := Lib.hid hB3
             have HFO3 := Lib.hid hfo3
             clear hb3 hB3 hfo3 hft
             go_wp2_with fail
             refine ci.mono ?_
             clear ci
             rintro e w4 ⟨rfl, hb4⟩
             have hs4 := hb4.size
             simp only [World.size_alloc] at hs4
             have hfo4 : Forest w4 (· < w4.heap.size) (.slice A2 [txt s.data.toList].length c2) [txt s.data.toList] := ((HFO3.out.under ((Below.refl w3.heap.size w3).alloc (Nat.le_refl _) _) (fun _ h => h)).under (hb4.mono (by simp)) (fun _ h => h)).keep (fun b hb => by omega) (fun _ _ _ h => h)
             have cl := Plain_any [txt s.data.toList] (by simp [manyL, many1, txt]) (by simp [sayL, say1, txt]; omega) _ w4 hfo4
             have e1 : sayL [txt s.data.toList] = s.data.toList := by simp [sayL, say1, txt]
             rw [e1, mk_list] at cl
             have HB4 := Lib.hid ((HB3.out.alloc (by omega) _).trans (hb4.mono (by simp; omega)))
             clear hb4 hfo4 e1
             go_wp2_with fail
             refine cl.mono ?_
             clear cl
             rintro e w5 ⟨rfl, hb5⟩
             have HB5 := Lib.hid (HB4.out.trans (hb5.mono (by omega)))
             clear hb5
             go_wp2
             go_ret
             exact ⟨rfl, HB5.out⟩)
  · have hb2 : (20000 : Int) < (s.size : Int) := by omega
    go_enter Tryz.func5, Tryz.ntmps5
    go_wp2_with fail
    refine ca.mono ?_
    clear ca
    rintro e w1 ⟨rfl, hb1⟩
    have HB1 := Lib.hid hb1
    have ca2 := alive_any w1 m ((hb1.cell (p := ⟨0, 0, none⟩) hB).trans HM.out)
    have hs1 := hb1.size
    clear hb1
    go_wp2_with fail
    refine ca2.mono ?_
    clear ca2
    rintro e w2 ⟨rfl, hb2'⟩
    have HB2 := Lib.hid (HB1.out.trans (hb2'.mono hs1))
    clear hb2'
    go_wp2
    go_ret
    exact ⟨rfl, HB2.out⟩
end Go.Proofs.YtgiiglcgfbnaoaaGreatDoor
namespace Go.Bd
theorem faults_open {w : Bs} (hw : (96 : UInt8) ∉ w) : ∃ l, faultsOf (96 :: w) = 7 :: l := by
  obtain ⟨l, h⟩ := code_open hw
  refine ⟨(sortF l).map (·.2), ?_⟩
  unfold faultsOf
  rw [h, sortF]
  have e : ∀ m : List (Nat × Nat), insF (0, 7) m = (0, 7) :: m := fun m => by
    cases m with
    | nil => rfl
    | cons q m => rw [insF, if_pos (Nat.zero_le _)]
  rw [e]
  rfl
/-- what a text's end tells -/
theorem of_end {s : Bs} {x : Sp} (h : endP s = ⟨[⟨⟨[x], []⟩, 0, [], 0⟩], []⟩) : faultsOf s = [] ∧ spansOf s = [x] := by
  refine ⟨(faultsOf_nil _).2 (by unfold faultsAt; rw [h]), ?_⟩
  unfold spansOf
  rw [h]
  rfl
theorem of_text {s : Bs} (hn : s ≠ []) (h : AllText s) : faultsOf s = [] ∧ spansOf s = [txt s] := by
  have h' : endP s = ⟨[⟨⟨[], s⟩, 0, [], 0⟩], []⟩ := h
  refine ⟨(faultsOf_nil _).2 (by unfold faultsAt; rw [h']), ?_⟩
  unfold spansOf
  rw [h']
  simp [Rw.flush, hn]
/-- one of sound spans -/
theorem snd_at : ∀ {l : List Sp} {d p k : Nat} {x : Sp}, sndL l d p = true → l[k]? = some x → snd1 x d = true ∧ (x.kind = 0 → (k = 0 → p ≠ 0) ∧ ∀ y, 0 < k → l[k - 1]? = some y → y.kind ≠ 0)
  | [], _, _, _, _, _, hx => by simp at hx
  | y :: l, d, p, 0, x, h, hx => by
    simp only [List.getElem?_cons_zero, Option.some.injEq] at hx
    subst hx
    simp only [sndL, Bool.and_eq_true, Bool.not_eq_true', Bool.and_eq_false_iff, decide_eq_false_iff_not] at h
    exact ⟨h.1.1, fun h0 => ⟨fun _ => h.1.2.resolve_left (fun hn => hn h0), fun _ hk => absurd hk (Nat.lt_irrefl 0)⟩⟩
  | y :: l, d, p, k + 1, x, h, hx => by
    simp only [sndL, Bool.and_eq_true] at h
    simp only [List.getElem?_cons_succ] at hx
    obtain ⟨h1, h2⟩ := snd_at h.2 hx
    refine ⟨h1, fun h0 => ⟨fun hk => by omega, fun z _ hz => ?_⟩⟩
    cases k with
    | zero =>
      simp only [Nat.zero_add, Nat.sub_self, List.getElem?_cons_zero, Option.some.injEq] at hz
      subst hz
      exact (h2 h0).1 rfl
    | succ k => exact (h2 h0).2 z (by omega) (by simpa using hz)
/-- what a sound span has -/
theorem snd_cases {x : Sp} {d : Nat} (h : snd1 x d = true) :
    (x.kind = 0 ∧ x.text ≠ [] ∧ x.kids = [] ∧ x.sub = [] ∧ x.see = []) ∨ ((x.kind = 3 ∨ x.kind = 4) ∧ x.kids = [] ∧ x.sub = [] ∧ x.see = []) ∨ (x.kind = 5 ∧ x.kids = []) ∨
    ((x.kind = 1 ∨ x.kind = 2) ∧ x.text = [] ∧ d ≠ 16 ∧ sndL x.kids (d + 1) 1 = true ∧ x.kids ≠ [] ∧ x.sub = [] ∧ x.see = []) ∨ (x.kind = 6 ∧ x.text = [] ∧ d ≠ 16 ∧ sndL x.kids (d + 1) 1 = true ∧ x.sub = [] ∧ x.see = []) := by
  obtain ⟨k, t, u, v, kids⟩ := x
  simp only [snd1, Bool.and_eq_true] at h
  obtain ⟨⟨⟨⟨h1, h2⟩, h3⟩, h4⟩, h5⟩ := h
  have hk : k ≤ 6 := by simpa using h1
  have hq : k = 0 ∨ k = 1 ∨ k = 2 ∨ k = 3 ∨ k = 4 ∨ k = 5 ∨ k = 6 := by omega
  rcases hq with rfl | rfl | rfl | rfl | rfl | rfl | rfl <;> simp at h2 h3 h4 h5 ⊢ <;> simp [*]
end Go.Bd
namespace Go.Proofs.YtgiiglcgfbnaoaaGreatDoor
open Go.RowKit Go.Bd
def ManyOk (N : Nat) : Prop := ∀ (l : List Sp), manyL l ≤ N → manyL l ≤ 1000000000 → ∀ (v : Value) (w : World) (B : Nat), Forest w (· < B) v l → B ≤ w.heap.size →
    Calls Tryz.prog 23 #[v] w fun e w' => e = .returned (.int .i64 (manyL l : Int)) ∧ Below B w w'
theorem manyL_take {l : List Sp} {k : Nat} {x : Sp} (h : l[k]? = some x) : manyL (l.take (k + 1)) = manyL (l.take k) + 1 + manyL x.kids := by
  rw [List.take_add_one, h, manyL_app]
  obtain ⟨q, t, u, v, ks⟩ := x
  simp [manyL, many1]; omega
set_option maxRecDepth 100000 in
set_option maxHeartbeats 2000000 in
theorem many_step {N : Nat} (ih : ∀ M, M < N → ManyOk M) : ManyOk N := by
  intro l hN hm v w B hF hB
  obtain ⟨A, c, rfl, hc⟩ := hF.len
  have hlm := many_len l
  have HF := Lib.hid hF
  have HIH := Lib.hid ih
  clear hF ih
  obtain ⟨n, hn⟩ : ∃ n, l.length = n := ⟨_, rfl⟩
  obtain ⟨mm, hmm⟩ : ∃ mm, manyL l = mm := ⟨_, rfl⟩
  have HN := Lib.hid hn
  have HMM := Lib.hid hmm
  simp only [hn, hmm] at hc hlm hN hm HF ⊢
  clear hn hmm
  go_enter Tryz.func23, Tryz.ntmps23
  go_wp2
  go_loopg [3, 4] n (fun q vn vi wr => ∃ k a : Nat, k + q = n ∧ vi = .int .i64 (k : Int) ∧ vn = .int .i64 (a : Int) ∧ a ≤ mm ∧ Hid (a + k = n + manyL (l.take k) ∧ Below B w wr))
  case atStart => exact ⟨0, n, by omega, rfl, rfl, hlm, by simp [manyL], Below.refl _ _⟩
  case round =>
    obtain ⟨k, a, hk, rfl, rfl, ham, HR⟩ := hrel
    by_cases hlt : k < n
    · obtain ⟨x, hx⟩ : ∃ x, l[k]? = some x := ⟨_, List.getElem?_eq_getElem (by rw [HN.out]; exact hlt)⟩
      obtain ⟨b1, off, kA, kc, rfl, hb1, hkF, p0, p1, p2, p3, p4⟩ := HF.out.at hx
      have hbl := HR.out.2
      replace p4 := (hbl.cell (p := ⟨b1, off + k * 5 + 4, none⟩) hb1).trans p4
      have hgt := many_get hx
      rw [HMM.out] at hgt
      have hrb := hbl.size
      have htk := manyL_take hx
      have hbd : manyL (l.take (k + 1)) + n ≤ mm + (k + 1) := by
        have e := manyL_app (l.take (k + 1)) (l.drop (k + 1))
        rw [List.take_append_drop, HMM.out] at e
        have h2 := many_len (l.drop (k + 1))
        rw [List.length_drop, HN.out] at h2
        omega
      have ci := HIH.out (manyL x.kids) (by omega) x.kids (Nat.le_refl _) (by omega) _ wr B (hkF.under hbl (fun _ h => h)) (by omega)
      have hsum : a + manyL x.kids + (k + 1) = n + manyL (l.take (k + 1)) := by have := HR.out.1; omega
      have HSM := Lib.hid hsum
      have ham2 : a + manyL x.kids ≤ mm := by omega
      generalize manyL x.kids = mk at ci ham2 HSM
      clear hx hkF hbl p0 p1 p2 p3 htk hbd hgt hsum
      go_wp2_with fail
      refine ci.mono ?_
      clear ci
      rintro e w2 ⟨rfl, hb2⟩
      have HB2 := Lib.hid (HR.out.2.trans hb2)
      clear hb2
      go_wp2
      go_roundg (gk - 1)
      case measure => omega
      case rel => exact ⟨k + 1, a + mk, by omega, by go_num, by go_num, ham2, HSM.out, HB2.out⟩
    · obtain rfl : k = n := by omega
      have ha : a = mm := by
        have h1 := HR.out.1
        rw [List.take_of_length_le (by rw [HN.out]; exact Nat.le_refl _), HMM.out] at h1
        omega
      subst ha
      go_wp2
      go_ret
      exact ⟨rfl, HR.out.2⟩
theorem many_any (N : Nat) : ManyOk N := by
  induction N using Nat.strongRecOn with
  | _ N ih => exact many_step ih
def faultV (f : Nat) : Value := .int .i64 (f : Int)
theorem faults_rd {w : World} {B : Nat} {v : Value} {l : List Nat} (h : FaultRow w B v l) : Rd w w.heap.size v (l.map faultV) := own_rd h
theorem faults_le {w : World} {B : Nat} {v : Value} {l : List Nat} (h : FaultRow w B v l) : l.length ≤ 9223372036854775807 := by
  rcases h.2 with ⟨_, h0⟩ | ⟨g, cap, cur, hv, hb, hh, hc, hm, hs, _⟩
  · omega
  · unfold maxLen at hm; omega
set_option maxRecDepth 100000 in
/-- faults that are the same -/
theorem sameFaults_any (l : List Nat) (hL : l.length ≤ 9223372036854775807) (a b : Value) (w : World) (B : Nat) (ha : Rd w B a (l.map faultV)) (hb : Rd w B b (l.map faultV)) :
    Calls Tryz.prog 24 #[a, b] w fun e w' => e = .returned (.bool true) ∧ Below w.heap.size w w' := by
  obtain ⟨A, ca, rfl, hca, fa⟩ := ha.form
  obtain ⟨C, cb, rfl, hcb, fb⟩ := hb.form
  rw [List.length_map] at hca hcb
  rw [List.length_map]
  have FA : Hid (∀ (j : Nat) x, l[j]? = some x → ∃ b off, A = some ⟨b, off, none⟩ ∧ b < B ∧ w.cell? ⟨b, off + j, none⟩ = some (.int .i64 (x : Int))) := fun j x hj => fa j _ (by rw [List.getElem?_map, hj]; rfl)
  have FB : Hid (∀ (j : Nat) x, l[j]? = some x → ∃ b off, C = some ⟨b, off, none⟩ ∧ b < B ∧ w.cell? ⟨b, off + j, none⟩ = some (.int .i64 (x : Int))) := fun j x hj => fb j _ (by rw [List.getElem?_map, hj]; rfl)
  clear ha hb fa fb
  generalize hn : l.length = n at hca hcb hL ⊢
  have HN := Lib.hid hn
  clear hn
  go_enter Tryz.func24, Tryz.ntmps24
  go_wp2
  go_loopg [5] n (fun r i wr => ∃ k : Nat, k + r = n ∧ i = .int .i64 k ∧ Below w.heap.size w wr ∧ (∀ p : Addr, wr.cell? p = w.cell? p))
  case atStart => exact ⟨0, by omega, rfl, Below.refl _ _, fun _ => rfl⟩
  case round =>
    obtain ⟨k, hk, rfl, hbl, hcell⟩ := hrel
    by_cases hlt : k < n
    · obtain ⟨s, hs⟩ : ∃ s, l[k]? = some s := ⟨_, List.getElem?_eq_getElem (by rw [HN.out]; exact hlt)⟩
      obtain ⟨b1, o1, rfl, _, c1⟩ := FA.out k s hs
      obtain ⟨b2, o2, rfl, _, c2⟩ := FB.out k s hs
      replace c1 := (hcell _).trans c1
      replace c2 := (hcell _).trans c2
      have HC := Lib.hid hcell
      clear hcell hs
      go_wp2
      go_quiet (fail)
      go_wp2
      have hb2 := below_drewN hbl nq
      go_roundg (gk - 1)
      case measure => omega
      case rel => exact ⟨k + 1, by omega, by go_num, hb2, fun p => HC.out p⟩
    · have hk' : n ≤ k := by omega
      have HC := Lib.hid hcell
      clear hcell
      go_wp2
      go_ret
      exact ⟨rfl, hbl⟩
end Go.Proofs.YtgiiglcgfbnaoaaGreatDoor
namespace Go.Proofs.YtgiiglcgfbnaoaaGreatDoor
open Go.RowKit Go.Bd
def noAcc (c : UInt8) : Bool := !(c == 96 || c == 92)
theorem noAcc_or (c : UInt8) : c = 96 ∨ c = 92 ∨ noAcc c = true := by
  unfold noAcc
  by_cases h1 : c = 96; · exact .inl h1
  by_cases h2 : c = 92; · exact .inr (.inl h2)
  refine .inr (.inr ?_)
  simp [h1, h2]
theorem noAcc_mem {l : Bs} (h : l.all noAcc = true) : (96 : UInt8) ∉ l := fun hm => by
  have := List.all_eq_true.1 h _ hm
  simp [noAcc] at this
theorem cat_list (a b : ByteArray) : (a ++ b).data.toList = a.data.toList ++ b.data.toList := by simp
theorem sizeL (b : ByteArray) : b.size = b.data.toList.length := by rw [Array.length_toList]; rfl
set_option maxRecDepth 100000 in
set_option maxHeartbeats 4000000 in
theorem spansCode_true (s : ByteArray) (m : Int) (w : World) (hm : w.cell? ⟨0, 0, none⟩ = some (.int .i64 m)) (hs : s.size ≤ 140737488355328) :
    Calls Tryz.prog 9 #[.string s] w fun e w' => e = .returned (.bool true) ∧ Below w.heap.size w w' := by
  have hB : 0 < w.heap.size := World.block_lt_of_cell? w _ hm
  have HM := Lib.hid hm
  have ca := alive_any w m hm
  clear hm
  by_cases hbig : s.size ≤ 2000
  · go_enter Tryz.func9, Tryz.ntmps9
    go_wp2_with fail
    refine ca.mono ?_
    clear ca
    rintro e w1 ⟨rfl, hb1⟩
    have HB1 := Lib.hid hb1
    have hs1 := hb1.size
    clear hb1
    go_wp2
    go_loopg [3] s.size (fun q i wr => wr = w1 ∧ ∃ k : Nat, k + q = s.size ∧ i = .int .i64 (k : Int) ∧ Hid ((s.data.toList.take k).all noAcc = true))
    case atStart => exact ⟨rfl, 0, by omega, rfl, (rfl : (s.data.toList.take 0).all noAcc = true)⟩
    case round =>
      obtain ⟨rfl, k, hk, rfl, HP⟩ := hrel
      by_cases hlt : k < s.size
      · rcases noAcc_or s[k] with h | h | h
        case inr.inr =>
          have HP2 := Lib.hid (all_snoc hlt HP.out h)
          have n1 : s[k] ≠ 96 := fun e => by rw [e] at h; simp [noAcc] at h
          have n2 : s[k] ≠ 92 := fun e => by rw [e] at h; simp [noAcc] at h
          have q1 := neB (d := 96) (k := 96) rfl n1
          have q2 := neB (d := 92) (k := 92) rfl n2
          clear h n1 n2
          go_wp2
          go_roundg (gk - 1)
          case measure => omega
          case rel => exact ⟨rfl, k + 1, by omega, by go_num, HP2.out⟩
        case inl =>
          have q0 := isB (d := 96) (k := 96) rfl h
          clear h
          go_wp2
          go_ret
          exact ⟨rfl, HB1.out⟩
        case inr.inl =>
          have q0 := neB (c := s[k]) (d := 96) (k := 96) rfl (by rw [h]; decide)
          have q1 := isB (d := 92) (k := 92) rfl h
          clear h
          go_wp2
          go_ret
          exact ⟨rfl, HB1.out⟩
      · obtain rfl : k = s.size := by omega
        have hpl : (96 : UInt8) ∉ s.data.toList := by
          have h := HP.out
          rw [List.take_of_length_le (by simp)] at h
          exact noAcc_mem h
        obtain ⟨lf, hlf⟩ := faults_open hpl
        obtain ⟨hcf, hcs⟩ := of_end (end_code hpl)
        have hc1 := (HB1.out.cell (p := ⟨0, 0, none⟩) hB).trans HM.out
        have HC1 := Lib.hid hc1
        have HPL := Lib.hid hpl
        have HLF := Lib.hid hlf
        have HCF := Lib.hid hcf
        have HCS := Lib.hid hcs
        clear hpl hlf hcf hcs hc1 HP
        obtain ⟨o, ho⟩ : ∃ o : ByteArray, (⟨#[96]⟩ : ByteArray) ++ s = o := ⟨_, rfl⟩
        have hol : o.data.toList = 96 :: s.data.toList := by rw [← ho, cat_list]; rfl
        have hos : o.size = s.size + 1 := by rw [sizeL, hol, List.length_cons, ← sizeL]
        have cp := parseSpans_any o wr (by omega) m HC1.out
        rw [hol, HLF.out] at cp
        have HOL := Lib.hid hol
        have HO := Lib.hid ho
        clear hol
        go_wp2_with fail
        refine cp.mono ?_
        clear cp
        rintro e w2 ⟨sv, fv, rfl, hb2, hf2, hr2⟩
        have hs2 := hb2.size
        obtain ⟨Af, cf, rfl, hcf, fa⟩ := (faults_rd hr2).form
        obtain ⟨b1, o1, rfl, hb1, c1⟩ := fa 0 (faultV 7) rfl
        obtain ⟨A2, c2, rfl, _⟩ := hf2.len
        have c1' : w2.cell? ⟨b1, o1, none⟩ = some (.int .i64 7) := c1
        have HB2 := Lib.hid (HB1.out.trans (hb2.mono hs1))
        obtain ⟨o2, ho2⟩ : ∃ o2 : ByteArray, o ++ (⟨#[96]⟩ : ByteArray) = o2 := ⟨_, rfl⟩
        have HO2 := Lib.hid ho2
        have ho2l : o2.data.toList = 96 :: (s.data.toList ++ [96]) := by rw [← ho2, cat_list, HOL.out]; rfl
        have ho2s : o2.size = s.size + 2 := by rw [sizeL, ho2l, List.length_cons, List.length_append, ← sizeL]; rfl
        have hC : Forest (w2.alloc (.cells #[.int .u8 3, .string s, .string ⟨#[]⟩, .string ⟨#[]⟩, .slice none 0 0] 33)) (· < (w2.alloc (.cells #[.int .u8 3, .string s, .string ⟨#[]⟩, .string ⟨#[]⟩, .slice none 0 0] 33)).heap.size) (.slice (some ⟨w2.heap.size, 0, none⟩) 1 1) [⟨3, s.data.toList, [], [], []⟩] := by
          have h := forest_one (x := ⟨3, s.data.toList, [], [], []⟩) (kv := .slice none 0 0) (w := w2.alloc (.cells #[.int .u8 3, .string s, .string ⟨#[]⟩, .string ⟨#[]⟩, .slice none 0 0] 33)) (F := (· < (w2.alloc (.cells #[.int .u8 3, .string s, .string ⟨#[]⟩, .string ⟨#[]⟩, .slice none 0 0] 33)).heap.size)) (g := w2.heap.size) (t := 33)
            (by have h := Holds.new w2 33 #[.int .u8 3, .string s, .string ⟨#[]⟩, .string ⟨#[]⟩, .slice none 0 0]
                have e : strV s.data.toList = .string s := by rw [strV, mk_list]
                simp only [spCells, e]
                exact h) (by simp) (Forest.nil _ _)
          exact h
        have ci := is_any o2 _ (by omega) (by rw [ho2l]; exact HCF.out) (by rw [ho2l]; exact HCS.out) _ _ m hC (cellAlloc _ ((hb2.cell (p := ⟨0, 0, none⟩) (show 0 < wr.heap.size by omega)).trans HC1.out))
        have hbw : b1 < w2.heap.size := hb1
        clear hb2 hf2 hr2 fa c1 hC
        rw [List.length_map, List.length_cons] at hcf ⊢
        obtain ⟨nl, hnl⟩ : ∃ nl, lf.length = nl := ⟨_, rfl⟩
        rw [hnl] at hcf ⊢
        clear hnl
        go_wp2_with fail
        refine ci.mono ?_
        clear ci
        rintro e w3 ⟨rfl, hb3⟩
        have HB3 := Lib.hid ((HB2.out.alloc (by omega) _).trans (hb3.mono (by simp; omega)))
        have c3 : w3.cell? ⟨b1, o1, none⟩ = some (.int .i64 7) := (hb3.cell (p := ⟨b1, o1, none⟩) (by simp; omega)).trans (cellAlloc _ c1')
        clear hb3
        go_wp2
        go_ret
        exact ⟨rfl, HB3.out⟩
  · have hb2 : (2000 : Int) < (s.size : Int) := by omega
    go_enter Tryz.func9, Tryz.ntmps9
    go_wp2_with fail
    refine ca.mono ?_
    clear ca
    rintro e w1 ⟨rfl, hb1⟩
    have HB1 := Lib.hid hb1
    have ca2 := alive_any w1 m ((hb1.cell (p := ⟨0, 0, none⟩) hB).trans HM.out)
    have hs1 := hb1.size
    clear hb1
    go_wp2_with fail
    refine ca2.mono ?_
    clear ca2
    rintro e w2 ⟨rfl, hb2'⟩
    have HB2 := Lib.hid (HB1.out.trans (hb2'.mono hs1))
    clear hb2'
    go_wp2
    go_ret
    exact ⟨rfl, HB2.out⟩
end Go.Proofs.YtgiiglcgfbnaoaaGreatDoor
namespace Go.Proofs.YtgiiglcgfbnaoaaGreatDoor
open Go.RowKit Go.Bd
theorem sty_or (c : UInt8) : c = 96 ∨ c = 60 ∨ c = 40 ∨ c = 94 ∨ c = 93 ∨ c = 92 ∨ styC c = true := by
  unfold styC
  by_cases h1 : c = 96; · exact .inl h1
  by_cases h2 : c = 60; · exact .inr (.inl h2)
  by_cases h3 : c = 40; · exact .inr (.inr (.inl h3))
  by_cases h4 : c = 94; · exact .inr (.inr (.inr (.inl h4)))
  by_cases h5 : c = 93; · exact .inr (.inr (.inr (.inr (.inl h5))))
  by_cases h6 : c = 92; · exact .inr (.inr (.inr (.inr (.inr (.inl h6)))))
  refine .inr (.inr (.inr (.inr (.inr (.inr ?_)))))
  simp [h1, h2, h3, h4, h5, h6]
theorem cat_bytes (a b : Bs) : (⟨a.toArray⟩ : ByteArray) ++ ⟨b.toArray⟩ = ⟨(a ++ b).toArray⟩ := by
  apply ByteArray.ext
  simp
/-- spans that read on behind a call -/
theorem Forest.later {w w' : World} {v : Value} {l : List Sp} (h : Forest w (· < w.heap.size) v l) (hb : Below w.heap.size w w') : Forest w' (· < w'.heap.size) v l :=
  (h.under hb (fun _ h => h)).keep (fun b hx => by have h1 : b < w.heap.size := hx; have h2 := hb.size; show b < w'.heap.size; omega) (fun _ _ _ h => h)
set_option maxRecDepth 100000 in
set_option maxHeartbeats 8000000 in
theorem spansJoins_true (s t : ByteArray) (m : Int) (w : World) (hm : w.cell? ⟨0, 0, none⟩ = some (.int .i64 m)) (hs : s.size ≤ 140737488355328) (ht : t.size ≤ 140737488355328) :
    Calls Tryz.prog 10 #[.string s, .string t] w fun e w' => e = .returned (.bool true) ∧ Below w.heap.size w w' := by
  have hB : 0 < w.heap.size := World.block_lt_of_cell? w _ hm
  have HM := Lib.hid hm
  have ca := alive_any w m hm
  clear hm
  by_cases hbig : s.size ≤ 1000 ∧ t.size ≤ 1000
  · obtain ⟨hbs, hbt⟩ := hbig
    obtain ⟨u, hu⟩ : ∃ u : ByteArray, s ++ t = u := ⟨_, rfl⟩
    have hul : u.data.toList = s.data.toList ++ t.data.toList := by rw [← hu, cat_list]
    have hus : u.size = s.size + t.size := by rw [sizeL, hul, List.length_append, ← sizeL, ← sizeL]
    have HUL := Lib.hid hul
    clear hul
    go_enter Tryz.func10, Tryz.ntmps10
    go_wp2_with fail
    refine ca.mono ?_
    clear ca
    rintro e w1 ⟨rfl, hb1⟩
    have HB1 := Lib.hid hb1
    have hs1 := hb1.size
    clear hb1
    go_wp2
    go_loopg [6] u.size (fun q i wr => wr = w1 ∧ ∃ k : Nat, k + q = u.size ∧ i = .int .i64 (k : Int) ∧ Hid ((u.data.toList.take k).all styC = true))
    case atStart => exact ⟨rfl, 0, by omega, rfl, (rfl : (u.data.toList.take 0).all styC = true)⟩
    case round =>
      obtain ⟨rfl, k, hk, rfl, HP⟩ := hrel
      by_cases hlt : k < u.size
      · rcases sty_or u[k] with h | h | h | h | h | h | h
        case inr.inr.inr.inr.inr.inr =>
          have HP2 := Lib.hid (all_snoc hlt HP.out h)
          obtain ⟨n1, n2, n3, n4, n5, n6⟩ := sty_ne h
          have q1 := neB (d := 96) (k := 96) rfl n1
          have q2 := neB (d := 60) (k := 60) rfl n2
          have q3 := neB (d := 40) (k := 40) rfl n3
          have q4 := neB (d := 94) (k := 94) rfl n4
          have q5 := neB (d := 93) (k := 93) rfl n5
          have q6 := neB (d := 92) (k := 92) rfl n6
          clear h n1 n2 n3 n4 n5 n6
          go_wp2
          go_roundg (gk - 1)
          case measure => omega
          case rel => exact ⟨rfl, k + 1, by omega, by go_num, HP2.out⟩
        case inl =>
          have q0 := isB (d := 96) (k := 96) rfl h
          clear h
          go_wp2
          go_ret
          exact ⟨rfl, HB1.out⟩
        case inr.inl =>
          have q0 := neB (c := u[k]) (d := 96) (k := 96) rfl (by rw [h]; decide)
          have q1 := isB (d := 60) (k := 60) rfl h
          clear h
          go_wp2
          go_ret
          exact ⟨rfl, HB1.out⟩
        case inr.inr.inl =>
          have q0 := neB (c := u[k]) (d := 96) (k := 96) rfl (by rw [h]; decide)
          have q1 := neB (c := u[k]) (d := 60) (k := 60) rfl (by rw [h]; decide)
          have q2 := isB (d := 40) (k := 40) rfl h
          clear h
          go_wp2
          go_ret
          exact ⟨rfl, HB1.out⟩
        case inr.inr.inr.inl =>
          have q0 := neB (c := u[k]) (d := 96) (k := 96) rfl (by rw [h]; decide)
          have q1 := neB (c := u[k]) (d := 60) (k := 60) rfl (by rw [h]; decide)
          have q2 := neB (c := u[k]) (d := 40) (k := 40) rfl (by rw [h]; decide)
          have q3 := isB (d := 94) (k := 94) rfl h
          clear h
          go_wp2
          go_ret
          exact ⟨rfl, HB1.out⟩
        case inr.inr.inr.inr.inl =>
          have q0 := neB (c := u[k]) (d := 96) (k := 96) rfl (by rw [h]; decide)
          have q1 := neB (c := u[k]) (d := 60) (k := 60) rfl (by rw [h]; decide)
          have q2 := neB (c := u[k]) (d := 40) (k := 40) rfl (by rw [h]; decide)
          have q3 := neB (c := u[k]) (d := 94) (k := 94) rfl (by rw [h]; decide)
          have q4 := isB (d := 93) (k := 93) rfl h
          clear h
          go_wp2
          go_ret
          exact ⟨rfl, HB1.out⟩
        case inr.inr.inr.inr.inr.inl =>
          have q0 := neB (c := u[k]) (d := 96) (k := 96) rfl (by rw [h]; decide)
          have q1 := neB (c := u[k]) (d := 60) (k := 60) rfl (by rw [h]; decide)
          have q2 := neB (c := u[k]) (d := 40) (k := 40) rfl (by rw [h]; decide)
          have q3 := neB (c := u[k]) (d := 94) (k := 94) rfl (by rw [h]; decide)
          have q4 := neB (c := u[k]) (d := 93) (k := 93) rfl (by rw [h]; decide)
          have q5 := isB (d := 92) (k := 92) rfl h
          clear h
          go_wp2
          go_ret
          exact ⟨rfl, HB1.out⟩
      · obtain rfl : k = u.size := by omega
        have hall := HP.out
        rw [List.take_of_length_le (by simp), HUL.out, List.all_append, Bool.and_eq_true] at hall
        obtain ⟨hsa, hta⟩ := hall
        have hc1 := (HB1.out.cell (p := ⟨0, 0, none⟩) hB).trans HM.out
        -- the three texts
        obtain ⟨sb, hsb⟩ : ∃ x : ByteArray, s ++ (⟨#[32]⟩ : ByteArray) = x := ⟨_, rfl⟩
        obtain ⟨sbt, hsbt⟩ : ∃ x : ByteArray, sb ++ t = x := ⟨_, rfl⟩
        have hsbl : sb.data.toList = s.data.toList ++ [32] := by rw [← hsb, cat_list]
        have hsbtl : sbt.data.toList = s.data.toList ++ [32] ++ t.data.toList := by rw [← hsbt, cat_list, hsbl]
        have hsbs : sb.size = s.size + 1 := by rw [sizeL, hsbl, List.length_append, ← sizeL]; rfl
        have hsbts : sbt.size = s.size + 1 + t.size := by rw [sizeL, hsbtl, List.length_append, List.length_append, ← sizeL, ← sizeL]; rfl
        have cpa := fun w' h => parseSpans_any sb w' (by omega) m h
        have cpb := fun w' h => parseSpans_any t w' (by omega) m h
        have cpc := fun w' h => parseSpans_any sbt w' (by omega) m h
        have ma := many_spans sb.data.toList
        have mb := many_spans t.data.toList
        have mc := many_spans sbt.data.toList
        have sa := say_spans sb.data.toList
        have sb' := say_spans t.data.toList
        have sc := say_spans sbt.data.toList
        rw [← sizeL] at ma mb mc sa sb' sc
        have hj : faultsOf sb.data.toList = [] → _ := fun h => joins hsa hta ((faultsOf_nil _).1 (by rw [← hsbl]; exact h))
        rw [← hsbtl, ← hsbl] at hj
        have HC1 := Lib.hid hc1
        clear hsa hta hc1 HP hsbl hsbtl
        generalize spansOf sb.data.toList = La at cpa ma sa hj
        generalize spansOf t.data.toList = Lb at cpb mb sb' hj
        generalize spansOf sbt.data.toList = Lc at cpc mc sc hj
        generalize faultsOf sb.data.toList = fa at cpa hj
        generalize faultsOf t.data.toList = fb at cpb hj
        generalize faultsOf sbt.data.toList = fc at cpc hj
        have HJ := Lib.hid hj
        have CB := Lib.hid cpb
        have CC := Lib.hid cpc
        replace cpa := cpa wr HC1.out
        clear hj cpb cpc
        go_wp2_with fail
        refine cpa.mono ?_
        clear cpa
        rintro e w2 ⟨av, fv, rfl, hb2, hfa, hra⟩
        have hs2 := hb2.size
        obtain ⟨Af, cf, rfl, hcf, _⟩ := (faults_rd hra).form
        obtain ⟨Aa, ca, rfl, hca⟩ := hfa.len
        have HA := Lib.hid hfa
        have HB2 := Lib.hid (HB1.out.trans (hb2.mono hs1))
        have hc2 := (hb2.cell (p := ⟨0, 0, none⟩) (show 0 < wr.heap.size by omega)).trans HC1.out
        have cpb := CB.out w2 hc2
        have HC2 := Lib.hid hc2
        clear hb2 hfa hra hc2
        rw [List.length_map] at hcf ⊢
        go_wp2_with fail
        refine cpb.mono ?_
        clear cpb
        rintro e w3 ⟨bv, gv, rfl, hb3, hfb, hrb⟩
        have hs3 := hb3.size
        have hgle := faults_le hrb
        have hrdg := faults_rd hrb
        obtain ⟨Ag, cg, rfl, hcg, _⟩ := hrdg.form
        obtain ⟨Ab, cb, rfl, hcb⟩ := hfb.len
        have HA3 := Lib.hid ((HA.out.under hb3 (fun _ h => h)).keep (G := (· < w3.heap.size)) (fun b hb => by have : b < w2.heap.size := hb; show b < w3.heap.size; omega) (fun _ _ _ h => h))
        have HBF := Lib.hid hfb
        have HG := Lib.hid hrdg
        have HB3 := Lib.hid (HB2.out.trans (hb3.mono (by omega)))
        have hc3 := (hb3.cell (p := ⟨0, 0, none⟩) (show 0 < w2.heap.size by omega)).trans HC2.out
        have cpc := CC.out w3 hc3
        clear hb3 hfb hrb hc3 hrdg HA
        go_wp2_with fail
        refine cpc.mono ?_
        clear cpc
        rintro e w4 ⟨cv, hv, rfl, hb4, hfc, hrc⟩
        have hs4 := hb4.size
        have hrdh := faults_rd hrc
        obtain ⟨Ah, ch, rfl, hch, _⟩ := hrdh.form
        obtain ⟨Ac, cc, rfl, hcc⟩ := hfc.len
        have keep4 : ∀ {v l}, Forest w3 (· < w3.heap.size) v l → Forest w4 (· < w4.heap.size) v l := fun h => (h.under hb4 (fun _ h => h)).keep (fun b hb => by have : b < w3.heap.size := hb; show b < w4.heap.size; omega) (fun _ _ _ h => h)
        have HA4 := Lib.hid (keep4 HA3.out)
        have HBF4 := Lib.hid (keep4 HBF.out)
        have HCF4 := Lib.hid hfc
        have HG4 := Lib.hid ((HG.out.below hb4).more hs4)
        have HH4 := Lib.hid hrdh
        have HB4 := Lib.hid (HB3.out.trans (hb4.mono (by omega)))
        clear hb4 hfc hrc hrdh HA3 HBF HG keep4
        by_cases hfe : fa = []
        · subst hfe
          obtain ⟨e1, e2, e3, e4, e5⟩ := HJ.out rfl
          subst e1
          have csf := sameFaults_any fc hgle _ _ w4 _ HG4.out HH4.out
          have hla : 1 ≤ La.length := List.length_pos_iff.2 e2
          have E3 := Lib.hid e3
          have hla0 : ((La.length : Int) == 0) = false := by rw [beq_eq_false_iff_ne]; omega
          clear e2 e3
          simp only [List.length_nil] at hcf ⊢
          rw [List.length_map] at csf ⊢
          go_wp2_with fail
          refine csf.mono ?_
          clear csf
          rintro e w5 ⟨rfl, hb5⟩
          have hs5 := hb5.size
          have HA5 := Lib.hid (Forest.later HA4.out hb5)
          have HBF5 := Lib.hid (Forest.later HBF4.out hb5)
          have HCF5 := Lib.hid (Forest.later HCF4.out hb5)
          have HB5 := Lib.hid (HB4.out.trans (hb5.mono (by omega)))
          clear hb5 HA4 HBF4 HCF4
          have hcat : (⟨(sayL La).toArray⟩ : ByteArray) ++ ⟨(sayL Lb).toArray⟩ = ⟨(sayL Lc).toArray⟩ := by rw [cat_bytes, ← E3.out]
          have pla := Plain_any La (by omega) (by omega) _ w5 HA5.out
          have plb := fun w' h => Plain_any Lb (by omega) (by omega) (.slice Ab Lb.length cb) w' h
          have plc := fun w' h => Plain_any Lc (by omega) (by omega) (.slice Ac Lc.length cc) w' h
          have zpa : (⟨(sayL La).toArray⟩ : ByteArray).size ≤ 1001 := by rw [size_mk]; omega
          have zpb : (⟨(sayL Lb).toArray⟩ : ByteArray).size ≤ 1001 := by rw [size_mk]; omega
          generalize (⟨(sayL La).toArray⟩ : ByteArray) = pa at pla hcat zpa
          generalize (⟨(sayL Lb).toArray⟩ : ByteArray) = pb at plb hcat zpb
          generalize (⟨(sayL Lc).toArray⟩ : ByteArray) = pc at plc hcat
          have MA := Lib.hid (fun w' h => many_any _ La (Nat.le_refl _) (by omega) (.slice Aa La.length ca) w' w'.heap.size h (Nat.le_refl _))
          have MB := Lib.hid (fun w' h => many_any _ Lb (Nat.le_refl _) (by omega) (.slice Ab Lb.length cb) w' w'.heap.size h (Nat.le_refl _))
          have MC := Lib.hid (fun w' h => many_any _ Lc (Nat.le_refl _) (by omega) (.slice Ac Lc.length cc) w' w'.heap.size h (Nat.le_refl _))
          generalize manyL La = na at MA ma e4 e5
          generalize manyL Lb = nb at MB mb e4 e5
          generalize manyL Lc = nc at MC mc e4 e5
          have PLB := Lib.hid plb
          have PLC := Lib.hid plc
          clear plb plc sa sb' sc
          go_wp2_with fail
          refine pla.mono ?_
          clear pla
          rintro e w6 ⟨rfl, hb6⟩
          have hs6 := hb6.size
          have HA6 := Lib.hid (Forest.later HA5.out hb6)
          have HBF6 := Lib.hid (Forest.later HBF5.out hb6)
          have HCF6 := Lib.hid (Forest.later HCF5.out hb6)
          have HB6 := Lib.hid (HB5.out.trans (hb6.mono (by omega)))
          have plb := PLB.out _ HBF6.out
          clear hb6 HA5 HBF5 HCF5 PLB
          go_wp2_with fail
          refine plb.mono ?_
          clear plb
          rintro e w7 ⟨rfl, hb7⟩
          have hs7 := hb7.size
          have HA7 := Lib.hid (Forest.later HA6.out hb7)
          have HBF7 := Lib.hid (Forest.later HBF6.out hb7)
          have HCF7 := Lib.hid (Forest.later HCF6.out hb7)
          have HB7 := Lib.hid (HB6.out.trans (hb7.mono (by omega)))
          have plc := PLC.out _ HCF7.out
          clear hb7 HA6 HBF6 HCF6 PLC
          go_wp2_with fail
          refine plc.mono ?_
          clear plc
          rintro e w8 ⟨rfl, hb8⟩
          have hs8 := hb8.size
          have HA8 := Lib.hid (Forest.later HA7.out hb8)
          have HBF8 := Lib.hid (Forest.later HBF7.out hb8)
          have HCF8 := Lib.hid (Forest.later HCF7.out hb8)
          have HB8 := Lib.hid (HB7.out.trans (hb8.mono (by omega)))
          have mc1 := MC.out _ HCF8.out
          clear hb8 HA7 HBF7 HCF7
          go_wp2_with fail
          refine mc1.mono ?_
          clear mc1
          rintro e w9 ⟨rfl, hb9⟩
          have hs9 := hb9.size
          have HA9 := Lib.hid (Forest.later HA8.out hb9)
          have HBF9 := Lib.hid (Forest.later HBF8.out hb9)
          have HCF9 := Lib.hid (Forest.later HCF8.out hb9)
          have HB9 := Lib.hid (HB8.out.trans (hb9.mono (by omega)))
          have ma1 := MA.out _ HA9.out
          clear hb9 HA8 HBF8 HCF8
          go_wp2_with fail
          refine ma1.mono ?_
          clear ma1
          rintro e w10 ⟨rfl, hb10⟩
          have hs10 := hb10.size
          have HA10 := Lib.hid (Forest.later HA9.out hb10)
          have HBF10 := Lib.hid (Forest.later HBF9.out hb10)
          have HCF10 := Lib.hid (Forest.later HCF9.out hb10)
          have HB10 := Lib.hid (HB9.out.trans (hb10.mono (by omega)))
          have mb1 := MB.out _ HBF10.out
          clear hb10 HA9 HBF9 HCF9
          go_wp2_with fail
          refine mb1.mono ?_
          clear mb1
          rintro e w11 ⟨rfl, hb11⟩
          have hs11 := hb11.size
          have HA11 := Lib.hid (Forest.later HA10.out hb11)
          have HBF11 := Lib.hid (Forest.later HBF10.out hb11)
          have HCF11 := Lib.hid (Forest.later HCF10.out hb11)
          have HB11 := Lib.hid (HB10.out.trans (hb11.mono (by omega)))
          have mc2 := MC.out _ HCF11.out
          clear hb11 HA10 HBF10 HCF10
          go_wp2_with fail
          refine mc2.mono ?_
          clear mc2
          rintro e w12 ⟨rfl, hb12⟩
          have hs12 := hb12.size
          have HA12 := Lib.hid (Forest.later HA11.out hb12)
          have HBF12 := Lib.hid (Forest.later HBF11.out hb12)
          have HB12 := Lib.hid (HB11.out.trans (hb12.mono (by omega)))
          have ma2 := MA.out _ HA12.out
          clear hb12 HA11 HBF11 HCF11
          go_wp2_with fail
          refine ma2.mono ?_
          clear ma2
          rintro e w13 ⟨rfl, hb13⟩
          have hs13 := hb13.size
          have HBF13 := Lib.hid (Forest.later HBF12.out hb13)
          have HB13 := Lib.hid (HB12.out.trans (hb13.mono (by omega)))
          have mb2 := MB.out _ HBF13.out
          clear hb13 HA12 HBF12
          go_wp2_with fail
          refine mb2.mono ?_
          clear mb2
          rintro e w14 ⟨rfl, hb14⟩
          have HB14 := Lib.hid (HB13.out.trans (hb14.mono (by omega)))
          clear hb14 HBF13
          go_wp2
          go_ret
          exact ⟨ret_bool (decide_eq_true (by omega)), HB14.out⟩
        · have hf0 : 1 ≤ fa.length := List.length_pos_iff.2 hfe
          go_wp2
          go_ret
          exact ⟨rfl, HB4.out⟩
  · go_enter Tryz.func10, Tryz.ntmps10
    rcases Nat.lt_or_ge 1000 s.size with hb2 | hb2
    all_goals
      (try have hb3 : 1000 < t.size := by omega)
      clear hbig
      go_wp2_with fail
      refine ca.mono ?_
      clear ca
      rintro e w1 ⟨rfl, hb1⟩
      have HB1 := Lib.hid hb1
      have ca2 := alive_any w1 m ((hb1.cell (p := ⟨0, 0, none⟩) hB).trans HM.out)
      have hs1 := hb1.size
      clear hb1
      go_wp2_with fail
      refine ca2.mono ?_
      clear ca2
      rintro e w2 ⟨rfl, hb2'⟩
      have HB2 := Lib.hid (HB1.out.trans (hb2'.mono hs1))
      clear hb2'
      go_wp2
      go_ret
      exact ⟨rfl, HB2.out⟩
end Go.Proofs.YtgiiglcgfbnaoaaGreatDoor
namespace Go.Bd
/-- the letter of a number -/
def letter (x : Int) : UInt8 := UInt8.ofNat (97 + (x % 26).toNat)
theorem letter_nat (x : Int) : ((letter x).toNat : Int) = 97 + x % 26 := by
  have h1 : 0 ≤ x % 26 := Int.emod_nonneg _ (by decide)
  have h2 : x % 26 < 26 := Int.emod_lt_of_pos _ (by decide)
  unfold letter
  rw [UInt8.toNat_ofNat']
  omega
theorem letter_small (x : Int) : (97 ≤ letter x && letter x ≤ 122) = true := by
  have h1 : 0 ≤ x % 26 := Int.emod_nonneg _ (by decide)
  have h2 : x % 26 < 26 := Int.emod_lt_of_pos _ (by decide)
  have h := letter_nat x
  simp only [Bool.and_eq_true, decide_eq_true_eq, UInt8.le_iff_toNat_le]
  have e1 : (97 : UInt8).toNat = 97 := rfl
  have e2 : (122 : UInt8).toNat = 122 := rfl
  omega
theorem letters_small (xs : List Int) : small (xs.map letter) = true := by
  unfold small
  rw [List.all_map, List.all_eq_true]
  exact fun x _ => letter_small x
end Go.Bd
namespace Go.Proofs.YtgiiglcgfbnaoaaGreatDoor
open Go.RowKit Go.Bd
theorem byte_info : (Tryz.prog.info? 5).map (fun i => (i.zero, i.size, i.bytes)) = some (some (.int .u8 0), 1, 1) := by kernel_rfl
theorem make_bytes (n : Nat) (w : World) (hn : n ≤ 1000000000) : (Instr.makeSlice 45 (.int .i64 n) (.int .i64 n)).run Tryz.prog w = .ok (.slice (some ⟨w.heap.size, 0, none⟩) n n) (w.alloc (.cells (madeCells #[.int .u8 0] (n * 1)) 5)) := by
  obtain ⟨i0, hi, hz0, hz1, hz2⟩ := info_parts byte_info
  have h := run_make (P := Tryz.prog) w 45 5 i0 _ Tryz.underlying45 hi hz0 .i64 .i64 n n (by omega) (Int.le_refl _) (by rw [hz2]; omega) (by omega)
  rw [hz1] at h
  simpa [Value.cells] using h
/-- what is kept while the answers are asked -/
structure StSt (w : World) (m : Int) (gB gI gK : Nat) (S : Bs) (W : World) : Prop where
  B : Below w.heap.size w W
  C : W.cell? ⟨0, 0, none⟩ = some (.int .i64 m)
  H : Holds W gB 33 #[.int .u8 1, .string ⟨#[]⟩, .string ⟨#[]⟩, .string ⟨#[]⟩, .slice (some ⟨gK, 0, none⟩) 1 1]
  I : Holds W gI 33 #[.int .u8 2, .string ⟨#[]⟩, .string ⟨#[]⟩, .string ⟨#[]⟩, .slice (some ⟨gK, 0, none⟩) 1 1]
  K : Forest W (· = gK) (.slice (some ⟨gK, 0, none⟩) 1 1) [txt S]
  k : gK < W.heap.size
section
variable {w W W' : World} {m : Int} {gB gI gK : Nat} {S : Bs}
theorem StSt.later (h : StSt w m gB gI gK S W) (hb : Below W.heap.size W W') : StSt w m gB gI gK S W' :=
  ⟨h.B.trans (hb.mono h.B.size), (hb.cell (p := ⟨0, 0, none⟩) (World.block_lt_of_cell? W _ h.C)).trans h.C, holdsUnder h.H hb, holdsUnder h.I hb, h.K.under hb (fun b e => by subst e; exact h.k), Nat.lt_of_lt_of_le h.k hb.size⟩
theorem StSt.kids (h : StSt w m gB gI gK S W) : Forest W (· < W.heap.size) (.slice (some ⟨gK, 0, none⟩) 1 1) [txt S] := h.K.keep (fun b e => by subst e; exact h.k) (fun _ _ _ h => h)
theorem StSt.alloc (h : StSt w m gB gI gK S W) (o : Obj) : StSt w m gB gI gK S (W.alloc o) := h.later ((Below.refl _ _).alloc (Nat.le_refl _) _)
theorem StSt.drew (h : StSt w m gB gI gK S W) : StSt w m gB gI gK S W.drew := ⟨h.B.drew, h.C, h.H, h.I, h.K.keep (fun _ h => h) (fun _ _ _ h => h), h.k⟩
theorem StSt.far (h : StSt w m gB gI gK S W) {p : Addr} (u : Value) (h0 : p.block ≠ 0) (hp : p.block ≠ gI) (h1 : p.block ≠ gB) (h2 : p.block ≠ gK) (hw : w.heap.size ≤ p.block) : StSt w m gB gI gK S (W.setCell p u) :=
  ⟨h.B.setCell hw _, (World.cell?_setCell_other W p _ u (fun e => h0 (by rw [e]))).trans h.C, h.H.far (fun e => h1 e.symm) _, h.I.far (fun e => hp e.symm) _, h.K.keep (fun _ h => h) (fun q v hq hv => (World.cell?_setCell_other W p _ u (fun e => h2 (by rw [e]; exact hq))).trans hv), by simpa using h.k⟩
end
theorem name_world {α : Sort _} {K : α → World → Prop} {a : α} {W : World} (h : ∀ W', W' = W → K a W') : K a W := h W rfl
def spB (S : Bs) : Sp := ⟨1, [], [], [], [txt S]⟩
def spT (S : Bs) : Sp := ⟨2, [], [], [], [txt S]⟩
def spN (S : Bs) : Sp := ⟨6, [], [], [], [spB S, txt [32], spT S]⟩
/-- .. and the note, when it is made -/
structure NtSt (w : World) (m : Int) (gB gI gK gN gL : Nat) (S : Bs) (W : World) : Prop where
  st : StSt w m gB gI gK S W
  N : Holds W gN 33 #[.int .u8 6, .string ⟨#[]⟩, .string ⟨#[]⟩, .string ⟨#[]⟩, .slice (some ⟨gL, 0, none⟩) 3 3]
  L : Forest W (fun b => b = gL ∨ b = gK) (.slice (some ⟨gL, 0, none⟩) 3 3) [spB S, txt [32], spT S]
  l : gL < W.heap.size
section
variable {w W W' : World} {m : Int} {gB gI gK gN gL : Nat} {S : Bs}
theorem NtSt.later (h : NtSt w m gB gI gK gN gL S W) (hb : Below W.heap.size W W') : NtSt w m gB gI gK gN gL S W' :=
  ⟨h.st.later hb, holdsUnder h.N hb, h.L.under hb (fun b e => e.elim (fun e => by subst e; exact h.l) (fun e => by subst e; exact h.st.k)), Nat.lt_of_lt_of_le h.l hb.size⟩
theorem NtSt.kids (h : NtSt w m gB gI gK gN gL S W) : Forest W (· < W.heap.size) (.slice (some ⟨gL, 0, none⟩) 3 3) [spB S, txt [32], spT S] := h.L.keep (fun b e => e.elim (fun e => by subst e; exact h.l) (fun e => by subst e; exact h.st.k)) (fun _ _ _ h => h)
theorem NtSt.alloc (h : NtSt w m gB gI gK gN gL S W) (o : Obj) : NtSt w m gB gI gK gN gL S (W.alloc o) := h.later ((Below.refl _ _).alloc (Nat.le_refl _) _)
theorem NtSt.drew (h : NtSt w m gB gI gK gN gL S W) : NtSt w m gB gI gK gN gL S W.drew := ⟨h.st.drew, h.N, h.L.keep (fun _ h => h) (fun _ _ _ h => h), h.l⟩
end
/-- the row of what stands in the note -/
structure LSt (gK gL : Nat) (S : Bs) (W : World) : Prop where
  L : Forest W (fun b => b = gL ∨ b = gK) (.slice (some ⟨gL, 0, none⟩) 3 3) [spB S, txt [32], spT S]
  l : gL < W.heap.size
  k : gK < W.heap.size
theorem LSt.later {W W' : World} {gK gL : Nat} {S : Bs} (h : LSt gK gL S W) (hb : Below W.heap.size W W') : LSt gK gL S W' :=
  ⟨h.L.under hb (fun b e => e.elim (fun e => by subst e; exact h.l) (fun e => by subst e; exact h.k)), Nat.lt_of_lt_of_le h.l hb.size, Nat.lt_of_lt_of_le h.k hb.size⟩
theorem LSt.heap {W W' : World} {gK gL : Nat} {S : Bs} (h : LSt gK gL S W) (e : W'.heap = W.heap) : LSt gK gL S W' :=
  ⟨h.L.keep (fun _ h => h) (fun p u _ hu => by rw [← hu]; unfold World.cell?; rw [e]), by rw [e]; exact h.l, by rw [e]; exact h.k⟩
theorem holdsHeap {W W' : World} {g : Nat} {t : TypeId} {cs : Array Value} (h : Holds W g t cs) (e : W'.heap = W.heap) : Holds W' g t cs := by
  unfold Holds at h ⊢; rw [e]; exact h
theorem note_kids {w W : World} {m : Int} {gB gI gK : Nat} {S : Bs} (h : StSt w m gB gI gK S W) : LSt gK W.heap.size S (W.alloc (.cells #[.int .u8 1, .string ⟨#[]⟩, .string ⟨#[]⟩, .string ⟨#[]⟩, .slice (some ⟨gK, 0, none⟩) 1 1, .int .u8 0, .string ⟨#[32]⟩, .string ⟨#[]⟩, .string ⟨#[]⟩, .slice none 0 0, .int .u8 2, .string ⟨#[]⟩, .string ⟨#[]⟩, .string ⟨#[]⟩, .slice (some ⟨gK, 0, none⟩) 1 1] 33)) := by
  have hk := h.K.under ((Below.refl W.heap.size W).alloc (Nat.le_refl _) (.cells #[.int .u8 1, .string ⟨#[]⟩, .string ⟨#[]⟩, .string ⟨#[]⟩, .slice (some ⟨gK, 0, none⟩) 1 1, .int .u8 0, .string ⟨#[32]⟩, .string ⟨#[]⟩, .string ⟨#[]⟩, .slice none 0 0, .int .u8 2, .string ⟨#[]⟩, .string ⟨#[]⟩, .string ⟨#[]⟩, .slice (some ⟨gK, 0, none⟩) 1 1] 33)) (fun b e => by subst e; exact h.k)
  have hk2 := hk.keep (G := fun b => b = W.heap.size ∨ b = gK) (fun b e => .inr e) (fun _ _ _ h => h)
  refine ⟨?_, by simp, by have := h.k; simp; omega⟩
  exact forest_lit (l := [spB S, txt [32], spT S]) (kvs := [.slice (some ⟨gK, 0, none⟩) 1 1, .slice none 0 0, .slice (some ⟨gK, 0, none⟩) 1 1]) (Holds.new W _ _) rfl (.inl rfl) (fun j x kv e1 e2 => by
    match j with
    | 0 => simp at e1 e2; subst e1; subst e2; exact hk2
    | 1 => simp at e1 e2; subst e1; subst e2; exact Forest.nil _ _
    | 2 => simp at e1 e2; subst e1; subst e2; exact hk2
    | j + 3 => simp at e1)
theorem note_block {w W : World} {m : Int} {gB gI gK : Nat} {S : Bs} (_h : StSt w m gB gI gK S W) : Holds (W.alloc (.cells #[.int .u8 0, .string ⟨#[]⟩, .string ⟨#[]⟩, .string ⟨#[]⟩, .slice none 0 0] 33)) W.heap.size 33 #[.int .u8 0, .string ⟨#[]⟩, .string ⟨#[]⟩, .string ⟨#[]⟩, .slice none 0 0] := Holds.new W _ _
theorem note_ne {w W : World} {m : Int} {gB gI gK : Nat} {S : Bs} (h : StSt w m gB gI gK S W) : gB < W.heap.size ∧ gI < W.heap.size ∧ gK < W.heap.size ∧ w.heap.size ≤ W.heap.size ∧ 0 < W.heap.size :=
  ⟨h.H.lt, h.I.lt, h.k, h.B.size, World.block_lt_of_cell? W _ h.C⟩
theorem note_made {w W : World} {m : Int} {gB gI gK gN gL : Nat} {S : Bs} (h : StSt w m gB gI gK S W) (hN : Holds W gN 33 #[.int .u8 0, .string ⟨#[]⟩, .string ⟨#[]⟩, .string ⟨#[]⟩, .slice none 0 0]) (hl : LSt gK gL S W)
    (hne : gB < gN ∧ gI < gN ∧ gK < gN ∧ w.heap.size ≤ gN ∧ 0 < gN) (hgn : gL ≠ gN) :
    NtSt w m gB gI gK gN gL S (((((W.setCell ⟨gN, 0, none⟩ (.int .u8 6)).setCell ⟨gN, 1, none⟩ (.string ⟨#[]⟩)).setCell ⟨gN, 2, none⟩ (.string ⟨#[]⟩)).setCell ⟨gN, 3, none⟩ (.string ⟨#[]⟩)).setCell ⟨gN, 4, none⟩ (.slice (some ⟨gL, 0, none⟩) 3 3)) := by
  obtain ⟨n1, n2, n3, n4, n5⟩ := hne
  have f : ∀ {V : World} (i : Nat) (u : Value), StSt w m gB gI gK S V → StSt w m gB gI gK S (V.setCell ⟨gN, i, none⟩ u) := fun i u hv => hv.far u (Nat.ne_of_gt n5) (Nat.ne_of_gt n2) (Nat.ne_of_gt n1) (Nat.ne_of_gt n3) n4
  refine ⟨f _ _ (f _ _ (f _ _ (f _ _ (f _ _ h)))), ((((hN.set 0 _).set 1 _).set 2 _).set 3 _).set 4 _, hl.L.keep (fun _ h => h) (fun q v hq hv => ?_), by simpa using hl.l⟩
  have hqn : gN ≠ q.block := by rcases hq with hq | hq <;> omega
  have o : ∀ {V : World} (i : Nat) (u : Value), V.cell? q = some v → (V.setCell ⟨gN, i, none⟩ u).cell? q = some v := fun i u hv => (World.cell?_setCell_other _ _ _ u (fun e => hqn (by rw [← e]))).trans hv
  exact o _ _ (o _ _ (o _ _ (o _ _ (o _ _ hv))))
/-- what is known of a text that is asked -/
def TxOk (y : ByteArray) (l : List Sp) : Prop := y.size ≤ 100000 ∧ faultsOf y.data.toList = [] ∧ spansOf y.data.toList = l
theorem txOk_end {y : ByteArray} {s : Bs} {x : Sp} (h : y.data.toList = s) (hs : s.length ≤ 100000) (he : endP s = ⟨[⟨⟨[x], []⟩, 0, [], 0⟩], []⟩) : TxOk y [x] := by
  obtain ⟨h1, h2⟩ := of_end he
  exact ⟨by rw [sizeL, h]; exact hs, by rw [h]; exact h1, by rw [h]; exact h2⟩
theorem txOk_text {y : ByteArray} {s : Bs} (h : y.data.toList = s) (hs : s.length ≤ 100000) (hn : s ≠ []) (he : AllText s) : TxOk y [txt y.data.toList] := by
  obtain ⟨h1, h2⟩ := of_text hn he
  exact ⟨by rw [sizeL, h]; exact hs, by rw [h]; exact h1, by rw [h]; exact h2⟩
theorem sty_1 {s : ByteArray} (hs : small s.data.toList = true) (hn : s.data.toList ≠ []) (hz : s.size ≤ 1000) : TxOk ((⟨#[42]⟩ : ByteArray) ++ s ++ ⟨#[42]⟩) [spB s.data.toList] :=
  txOk_end (s := 42 :: (s.data.toList ++ [42])) (by rw [cat_list, cat_list]; rfl) (by simp; omega) (end_styled (.inl ⟨rfl, rfl⟩) hs hn)
theorem sty_2 {s : ByteArray} (hs : small s.data.toList = true) (hn : s.data.toList ≠ []) (hz : s.size ≤ 1000) : TxOk ((⟨#[95]⟩ : ByteArray) ++ s ++ ⟨#[95]⟩) [spT s.data.toList] :=
  txOk_end (s := 95 :: (s.data.toList ++ [95])) (by rw [cat_list, cat_list]; rfl) (by simp; omega) (end_styled (.inr ⟨rfl, rfl⟩) hs hn)
theorem sty_3 {s : ByteArray} (hs : small s.data.toList = true) (_hn : s.data.toList ≠ []) (hz : s.size ≤ 1000) : TxOk ((⟨#[96]⟩ : ByteArray) ++ s ++ ⟨#[96]⟩) [⟨3, s.data.toList, [], [], []⟩] :=
  txOk_end (s := 96 :: (s.data.toList ++ [96])) (by rw [cat_list, cat_list]; rfl) (by simp; omega) (end_code (fun hm => by
    have := List.all_eq_true.1 (small_plain hs) _ hm
    simp [plainC] at this))
theorem sty_4 {s : ByteArray} (hs : small s.data.toList = true) (hn : s.data.toList ≠ []) (hz : s.size ≤ 1000) : TxOk ((⟨#[120, 42]⟩ : ByteArray) ++ s ++ ⟨#[42]⟩) [txt ((⟨#[120, 42]⟩ : ByteArray) ++ s ++ ⟨#[42]⟩).data.toList] :=
  txOk_text (s := 120 :: 42 :: (s.data.toList ++ [42])) (by rw [cat_list, cat_list]; rfl) (by simp; omega) (by simp) (text_behind hs hn)
theorem sty_5 {s : ByteArray} (hs : small s.data.toList = true) (hn : s.data.toList ≠ []) (hz : s.size ≤ 1000) : TxOk ((⟨#[94, 91, 42]⟩ : ByteArray) ++ s ++ ⟨#[42, 32, 95]⟩ ++ s ++ ⟨#[95, 93]⟩) [spN s.data.toList] :=
  txOk_end (s := 94 :: 91 :: 42 :: (s.data.toList ++ 42 :: 32 :: 95 :: (s.data.toList ++ [95, 93]))) (by rw [cat_list, cat_list, cat_list, cat_list]; simp) (by simp; omega) (end_note hs hn)
theorem sty_6 {s : ByteArray} (hs : small s.data.toList = true) (_hn : s.data.toList ≠ []) (hz : s.size ≤ 1000) : TxOk ((⟨#[42, 32]⟩ : ByteArray) ++ s ++ ⟨#[32, 42]⟩) [txt ((⟨#[42, 32]⟩ : ByteArray) ++ s ++ ⟨#[32, 42]⟩).data.toList] :=
  txOk_text (s := 42 :: 32 :: (s.data.toList ++ [32, 42])) (by rw [cat_list, cat_list]; rfl) (by simp; omega) (by simp) (text_blank hs)
theorem sty_7 {s : ByteArray} (hs : small s.data.toList = true) (hn : s.data.toList ≠ []) (hz : s.size ≤ 1000) : TxOk (s ++ ⟨#[95]⟩ ++ s ++ ⟨#[95]⟩ ++ s) [txt (s ++ ⟨#[95]⟩ ++ s ++ ⟨#[95]⟩ ++ s).data.toList] :=
  txOk_text (s := s.data.toList ++ 95 :: (s.data.toList ++ 95 :: s.data.toList)) (by rw [cat_list, cat_list, cat_list, cat_list]; simp) (by simp; omega) (by simp) (text_between hs hn)
theorem is_tx {y : ByteArray} {l : List Sp} (h : TxOk y l) (v : Value) (w : World) (m : Int) (hF : Forest w (· < w.heap.size) v l) (hc : w.cell? ⟨0, 0, none⟩ = some (.int .i64 m)) :
    Calls Tryz.prog 17 #[.string y, v] w fun e w' => e = .returned (.bool true) ∧ Below w.heap.size w w' := is_any y l h.1 h.2.1 h.2.2 v w m hF hc
theorem forest_new_tx (W : World) (y : ByteArray) : Forest (W.alloc (.cells #[.int .u8 0, .string y, .string ⟨#[]⟩, .string ⟨#[]⟩, .slice none 0 0] 33)) (· < (W.alloc (.cells #[.int .u8 0, .string y, .string ⟨#[]⟩, .string ⟨#[]⟩, .slice none 0 0] 33)).heap.size) (.slice (some ⟨W.heap.size, 0, none⟩) 1 1) [txt y.data.toList] := by
  have h := forest_new_txt W y.data.toList
  rwa [mk_list] at h
theorem forest_new_kids (W : World) (k : Nat) (x : Sp) (kv : Value) (hx : x.kind = k) (h1 : x.text = []) (h2 : x.sub = []) (h3 : x.see = []) (hk : Forest W (· < W.heap.size) kv x.kids) :
    Forest (W.alloc (.cells #[.int .u8 (k : Int), .string ⟨#[]⟩, .string ⟨#[]⟩, .string ⟨#[]⟩, kv] 33)) (· < (W.alloc (.cells #[.int .u8 (k : Int), .string ⟨#[]⟩, .string ⟨#[]⟩, .string ⟨#[]⟩, kv] 33)).heap.size) (.slice (some ⟨W.heap.size, 0, none⟩) 1 1) [x] := by
  refine forest_one (kv := kv) (t := 33) ?_ (by simp) (Forest.later hk ((Below.refl _ _).alloc (Nat.le_refl _) _))
  have h := Holds.new W 33 #[.int .u8 (k : Int), .string ⟨#[]⟩, .string ⟨#[]⟩, .string ⟨#[]⟩, kv]
  obtain ⟨q, t, u, v, ks⟩ := x
  simp only at hx h1 h2 h3
  subst hx h1 h2 h3
  exact h
theorem forest_new_code (W : World) (y : ByteArray) : Forest (W.alloc (.cells #[.int .u8 3, .string y, .string ⟨#[]⟩, .string ⟨#[]⟩, .slice none 0 0] 33)) (· < (W.alloc (.cells #[.int .u8 3, .string y, .string ⟨#[]⟩, .string ⟨#[]⟩, .slice none 0 0] 33)).heap.size) (.slice (some ⟨W.heap.size, 0, none⟩) 1 1) [⟨3, y.data.toList, [], [], []⟩] := by
  refine forest_one (x := ⟨3, y.data.toList, [], [], []⟩) (kv := .slice none 0 0) (t := 33) ?_ (by simp) (Forest.nil _ _)
  have h := Holds.new W 33 #[.int .u8 3, .string y, .string ⟨#[]⟩, .string ⟨#[]⟩, .slice none 0 0]
  have e : strV y.data.toList = .string y := by rw [strV, mk_list]
  simp only [spCells, e]
  exact h
set_option maxRecDepth 100000 in
set_option maxHeartbeats 16000000 in
theorem spansStyles_true (v : Value) (xs : List Int) (m : Int) (w : World) (hm : w.cell? ⟨0, 0, none⟩ = some (.int .i64 m)) (hR : Rd w w.heap.size v (xs.map (Value.int .u8))) (hwf : ∀ x ∈ xs, (Lit.int .u8 x).wf = true) (hlen : xs.length ≤ 140737488355328) :
    Calls Tryz.prog 8 #[v] w fun e w' => e = .returned (.bool true) ∧ Below w.heap.size w w' := by
  have hB : 0 < w.heap.size := World.block_lt_of_cell? w _ hm
  have HM := Lib.hid hm
  have ca := alive_any w m hm
  obtain ⟨A, c, rfl, hc, hcell⟩ := hR.form
  rw [List.length_map] at hc ⊢
  clear hm
  by_cases hgo : xs.length ≠ 0 ∧ xs.length ≤ 1000
  · obtain ⟨hn0, hn1⟩ := hgo
    have HSM := Lib.hid (letters_small xs)
    have HCE : Hid (∀ (j : Nat) x, xs[j]? = some x → 0 ≤ x ∧ x ≤ 255 ∧ ∃ b off, A = some ⟨b, off, none⟩ ∧ b < w.heap.size ∧ w.cell? ⟨b, off + j, none⟩ = some (.int .u8 x)) := fun j x hj => by
      have hw := hwf x (List.mem_of_getElem? hj)
      have h2 : 0 ≤ x ∧ x ≤ 255 := by simpa [Lit.wf, IntKind.min, IntKind.max, IntKind.signed, IntKind.bits] using hw
      exact ⟨h2.1, h2.2, hcell j _ (by rw [List.getElem?_map, hj]; rfl)⟩
    clear hcell hwf hR
    obtain ⟨n, hn⟩ : ∃ n, xs.length = n := ⟨_, rfl⟩
    have HN := Lib.hid hn
    rw [hn] at hc hn0 hn1 hlen ⊢
    clear hn
    have t0 : ((n : Int) == 0) = false := by rw [beq_eq_false_iff_ne]; omega
    go_enter Tryz.func8, Tryz.ntmps8
    go_wp2_with fail
    refine ca.mono ?_
    clear ca
    rintro e w1 ⟨rfl, hb1⟩
    have HB1 := Lib.hid hb1
    have hs1 := hb1.size
    clear hb1
    have mf := make_bytes n w1 (by omega)
    have hz := madeCells_size #[.int .u8 0] (n * 1)
    generalize madeCells #[.int .u8 0] (n * 1) = zc at mf hz
    have HZ := Lib.hid hz
    clear hz
    go_wp2
    clear mf
    go_loopg [4] n (fun q i wr => ∃ k : Nat, k + q = n ∧ i = .int .i64 (k : Int) ∧ Hid (Bytes wr w1.heap.size 5 n k (xs.map letter) ∧ Below w.heap.size w wr))
    case atStart => exact ⟨0, by omega, rfl, Bytes.new w1 _ _ _ (by have := HZ.out; omega), HB1.out.alloc (by omega) _⟩
    case round =>
      obtain ⟨k, hk, rfl, HR⟩ := hrel
      have hbw := HR.out.1.lt
      have hrb := HR.out.2.size
      by_cases hlt : k < n
      · obtain ⟨x, hx⟩ : ∃ x, xs[k]? = some x := ⟨_, List.getElem?_eq_getElem (by rw [HN.out]; exact hlt)⟩
        obtain ⟨hx0, hx1, b1, off, rfl, hb1, c1⟩ := HCE.out k x hx
        replace c1 := (HR.out.2.cell (p := ⟨b1, off + k, none⟩) hb1).trans c1
        obtain ⟨u, hu⟩ := HR.out.1.room hlt
        have hf := HR.out.1.free hlt
        have hlk : (xs.map letter).getD k 0 = letter x := by rw [List.getD_eq_getElem?_getD, List.getElem?_map, hx]; rfl
        have hln := letter_nat x
        have hm1 : 0 ≤ x % 26 := Int.emod_nonneg _ (by decide)
        have hm2 : x % 26 < 26 := Int.emod_lt_of_pos _ (by decide)
        have HLK := Lib.hid (show Value.int .u8 (97 + x % 26) = byteV ((xs.map letter).getD k 0) by rw [hlk]; unfold byteV; rw [hln])
        clear hx hlk hln
        go_wp2
        go_roundg (gk - 1)
        case measure => omega
        case rel => exact ⟨k + 1, by omega, by go_num, HR.out.1.put hlt (by first | exact HLK.out | (rw [← HLK.out]; go_num)), HR.out.2.setCell (by simp; omega) _⟩
      · obtain rfl : k = n := by omega
        have hbb := run_bytes_back (P := Tryz.prog) (src := 45) (dst := 9) (cap := k) Tryz.underlying45 Tryz.underlying5 Tryz.underlying9 HR.out.1 (by rw [List.length_map, HN.out])
        obtain ⟨sb, hsb⟩ : ∃ sb : ByteArray, (⟨(xs.map letter).toArray⟩ : ByteArray) = sb := ⟨_, rfl⟩
        have hsl : sb.data.toList = xs.map letter := by rw [← hsb]
        have hsz : sb.size = k := by rw [sizeL, hsl, List.length_map, HN.out]
        rw [hsb] at hbb
        have hsm : small sb.data.toList = true := by rw [hsl]; exact HSM.out
        have hne : sb.data.toList ≠ [] := by intro h; rw [sizeL, h] at hsz; simp at hsz; omega
        have HB := Lib.hid HR.out.2
        have HCW := Lib.hid ((HR.out.2.cell (p := ⟨0, 0, none⟩) hB).trans HM.out)
        clear hsb hsl HR HCE HSM
        go_wp2_with fail
        refine (text_any sb wr).mono ?_
        rintro e w2 ⟨rfl, hb2⟩
        have hrb2 := HB.out.size
        have hs2 := hb2.size
        have HB2 := Lib.hid (HB.out.trans (hb2.mono hrb2))
        clear hb2
        obtain ⟨w3, hw3⟩ : ∃ w3, ((w2.alloc (.cells #[.int .u8 0, .string sb, .string ⟨#[]⟩, .string ⟨#[]⟩, .slice none 0 0] 33)).alloc (.cells #[.int .u8 1, .string ⟨#[]⟩, .string ⟨#[]⟩, .string ⟨#[]⟩, .slice (some ⟨w2.heap.size, 0, none⟩) 1 1] 33)).alloc (.cells #[.int .u8 2, .string ⟨#[]⟩, .string ⟨#[]⟩, .string ⟨#[]⟩, .slice (some ⟨w2.heap.size, 0, none⟩) 1 1] 33) = w3 := ⟨_, rfl⟩
        have hA : StSt w m (w2.heap.size + 1) (w2.heap.size + 1 + 1) w2.heap.size sb.data.toList w3 := by
          have hb3 : Below w.heap.size w w3 := by
            rw [← hw3]
            exact ((HB2.out.alloc (by omega) _).alloc (by simp; omega) _).alloc (by simp; omega) _
          refine ⟨hb3, (hb3.cell (p := ⟨0, 0, none⟩) hB).trans HM.out, ?_, ?_, ?_, by rw [← hw3]; simp only [World.size_alloc]; omega⟩
          · rw [← hw3]
            have h := (Holds.new (w2.alloc (.cells #[.int .u8 0, .string sb, .string ⟨#[]⟩, .string ⟨#[]⟩, .slice none 0 0] 33)) 33 #[.int .u8 1, .string ⟨#[]⟩, .string ⟨#[]⟩, .string ⟨#[]⟩, .slice (some ⟨w2.heap.size, 0, none⟩) 1 1]).alloc (.cells #[.int .u8 2, .string ⟨#[]⟩, .string ⟨#[]⟩, .string ⟨#[]⟩, .slice (some ⟨w2.heap.size, 0, none⟩) 1 1] 33)
            simp only [World.size_alloc] at h
            exact h
          · rw [← hw3]
            have h := Holds.new ((w2.alloc (.cells #[.int .u8 0, .string sb, .string ⟨#[]⟩, .string ⟨#[]⟩, .slice none 0 0] 33)).alloc (.cells #[.int .u8 1, .string ⟨#[]⟩, .string ⟨#[]⟩, .string ⟨#[]⟩, .slice (some ⟨w2.heap.size, 0, none⟩) 1 1] 33)) 33 #[.int .u8 2, .string ⟨#[]⟩, .string ⟨#[]⟩, .string ⟨#[]⟩, .slice (some ⟨w2.heap.size, 0, none⟩) 1 1]
            simp only [World.size_alloc] at h
            exact h
          · rw [← hw3]
            have h := ((Holds.new w2 33 #[.int .u8 0, .string sb, .string ⟨#[]⟩, .string ⟨#[]⟩, .slice none 0 0]).alloc (.cells #[.int .u8 1, .string ⟨#[]⟩, .string ⟨#[]⟩, .string ⟨#[]⟩, .slice (some ⟨w2.heap.size, 0, none⟩) 1 1] 33)).alloc (.cells #[.int .u8 2, .string ⟨#[]⟩, .string ⟨#[]⟩, .string ⟨#[]⟩, .slice (some ⟨w2.heap.size, 0, none⟩) 1 1] 33)
            rw [← mk_list sb] at h
            have h2 := forest_txt (F := (· = w2.heap.size)) h rfl
            rw [mk_list] at h2
            exact h2
        clear HB HCW
        go_wp2
        clear hw3
        generalize w2.heap.size + 1 + 1 = gI at hA ⊢
        generalize w2.heap.size + 1 = gB at hA ⊢
        generalize w2.heap.size = gK at hA ⊢
        have hz1 : sb.size ≤ 1000 := by omega
        refine wp_region_held_drew (S := (fun w' => (w'.cell? ⟨gB, 0, none⟩ = some (.int .u8 1) ∧ w'.cell? ⟨gB, 1, none⟩ = some (.string ⟨#[]⟩) ∧ w'.cell? ⟨gB, 2, none⟩ = some (.string ⟨#[]⟩) ∧ w'.cell? ⟨gB, 3, none⟩ = some (.string ⟨#[]⟩) ∧ w'.cell? ⟨gB, 4, none⟩ = some (.slice (some ⟨gK, 0, none⟩) 1 1)) ∧ (w'.cell? ⟨gI, 0, none⟩ = some (.int .u8 2) ∧ w'.cell? ⟨gI, 1, none⟩ = some (.string ⟨#[]⟩) ∧ w'.cell? ⟨gI, 2, none⟩ = some (.string ⟨#[]⟩) ∧ w'.cell? ⟨gI, 3, none⟩ = some (.string ⟨#[]⟩) ∧ w'.cell? ⟨gI, 4, none⟩ = some (.slice (some ⟨gK, 0, none⟩) 1 1)))) (by kernel_rfl) ?_ (fun hHeld0 => ?_)
        · (try dsimp only)
          first | exact ⟨cells5 (StSt.H (by first | with_reducible exact hA | with_reducible exact hA.drew | with_reducible exact hA.alloc _ | with_reducible exact hA.drew.alloc _ | with_reducible exact (hA.alloc _).drew | with_reducible exact (hA.alloc _).alloc _)), cells5 (StSt.I (by first | with_reducible exact hA | with_reducible exact hA.drew | with_reducible exact hA.alloc _ | with_reducible exact hA.drew.alloc _ | with_reducible exact (hA.alloc _).drew | with_reducible exact (hA.alloc _).alloc _))⟩ | exact ⟨cells5 (NtSt.st (by first | with_reducible exact hA | with_reducible exact hA.drew | with_reducible exact hA.alloc _ | with_reducible exact hA.drew.alloc _ | with_reducible exact (hA.alloc _).drew | with_reducible exact (hA.alloc _).alloc _)).H, cells5 (NtSt.st (by first | with_reducible exact hA | with_reducible exact hA.drew | with_reducible exact hA.alloc _ | with_reducible exact hA.drew.alloc _ | with_reducible exact (hA.alloc _).drew | with_reducible exact (hA.alloc _).alloc _)).I⟩
        refine wpAnyH_take (i := 0) (v := ?_) rfl (by kernel_rfl) (by kernel_rfl) (by kernel_rfl) (fun _ _ _ h => h) (Or.inl ⟨by kernel_rfl, ?_⟩) (by assumption) ?_
        rotate_left
        · (intro w hSw; (try dsimp only at hSw); go_simp; (first | done | with_reducible rfl))
        (try simp only [Act.put, List.setIfInBounds_toArray, List.set_cons_zero, List.set_cons_succ])
        refine wpAnyH_take (i := 2) (v := ?_) rfl (by kernel_rfl) (by kernel_rfl) (by kernel_rfl) (fun _ _ _ h => h) (Or.inl ⟨by kernel_rfl, ?_⟩) (by assumption) ?_
        rotate_left
        · (intro w hSw; (try dsimp only at hSw); go_simp; (first | done | with_reducible rfl))
        (try simp only [Act.put, List.setIfInBounds_toArray, List.set_cons_zero, List.set_cons_succ])
        refine wpAnyH_ready (rs := [1, 5]) (by kernel_rfl) (by simp) ?_
        refine AllReadyH.cons rfl (fun K hK => ?_) ?_
        · skip
          go_simp
          refine (text_any ⟨#[32]⟩ _).mono ?_
          rintro e w7 ⟨rfl, hb⟩
          replace hA := StSt.later (w := w) (m := m) (gB := gB) (gI := gI) (gK := gK) (S := sb.data.toList) (by first | with_reducible exact hA | with_reducible exact hA.drew | with_reducible exact hA.alloc _ | with_reducible exact hA.drew.alloc _ | with_reducible exact (hA.alloc _).drew | with_reducible exact (hA.alloc _).alloc _) hb
          (try replace hN := holdsUnder hN hb)
          clear hb
          go_wp2_with fail
          refine hK.out _ _ ?_ (fun hHeld1 => ?_)
          · (try dsimp only)
            first | exact ⟨cells5 (StSt.H (by first | with_reducible exact hA | with_reducible exact hA.drew | with_reducible exact hA.alloc _ | with_reducible exact hA.drew.alloc _ | with_reducible exact (hA.alloc _).drew | with_reducible exact (hA.alloc _).alloc _)), cells5 (StSt.I (by first | with_reducible exact hA | with_reducible exact hA.drew | with_reducible exact hA.alloc _ | with_reducible exact hA.drew.alloc _ | with_reducible exact (hA.alloc _).drew | with_reducible exact (hA.alloc _).alloc _))⟩ | exact ⟨cells5 (NtSt.st (by first | with_reducible exact hA | with_reducible exact hA.drew | with_reducible exact hA.alloc _ | with_reducible exact hA.drew.alloc _ | with_reducible exact (hA.alloc _).drew | with_reducible exact (hA.alloc _).alloc _)).H, cells5 (NtSt.st (by first | with_reducible exact hA | with_reducible exact hA.drew | with_reducible exact hA.alloc _ | with_reducible exact hA.drew.alloc _ | with_reducible exact (hA.alloc _).drew | with_reducible exact (hA.alloc _).alloc _)).I⟩
          clear hK K hHeld0
          (try simp only [Act.put, List.setIfInBounds_toArray, List.set_cons_zero, List.set_cons_succ])
          refine wpAnyH_ready (rs := [3, 5]) (by kernel_rfl) (by simp) ?_
          refine AllReadyH.cons rfl (fun K hK => ?_) ?_
          · skip
            go_simp
            refine name_world ?_
            intro w8 hw8
            have hA8 := hA.later (W' := w8) (by rw [hw8]; first | exact (Below.refl _ _).alloc (Nat.le_refl _) _ | exact ((Below.refl _ _).alloc (Nat.le_refl _) _).drew | exact ((Below.refl _ _).drew).alloc (Nat.le_refl _) _ | exact (((Below.refl _ _).drew).alloc (Nat.le_refl _) _).drew)
            have hl := (note_kids hA).heap (W' := w8) (by subst hw8; rfl)
            (try have hgn := Nat.ne_of_gt hN.lt)
            (try replace hN := holdsUnder (w' := w8) hN (by rw [hw8]; first | exact (Below.refl _ _).alloc (Nat.le_refl _) _ | exact ((Below.refl _ _).alloc (Nat.le_refl _) _).drew | exact ((Below.refl _ _).drew).alloc (Nat.le_refl _) _ | exact (((Below.refl _ _).drew).alloc (Nat.le_refl _) _).drew))
            clear hw8
            replace hA := hA8
            clear hA8
            refine hK.out _ _ ?_ (fun hHeld2 => ?_)
            · (try dsimp only)
              first | exact ⟨cells5 (StSt.H (by first | with_reducible exact hA | with_reducible exact hA.drew | with_reducible exact hA.alloc _ | with_reducible exact hA.drew.alloc _ | with_reducible exact (hA.alloc _).drew | with_reducible exact (hA.alloc _).alloc _)), cells5 (StSt.I (by first | with_reducible exact hA | with_reducible exact hA.drew | with_reducible exact hA.alloc _ | with_reducible exact hA.drew.alloc _ | with_reducible exact (hA.alloc _).drew | with_reducible exact (hA.alloc _).alloc _))⟩ | exact ⟨cells5 (NtSt.st (by first | with_reducible exact hA | with_reducible exact hA.drew | with_reducible exact hA.alloc _ | with_reducible exact hA.drew.alloc _ | with_reducible exact (hA.alloc _).drew | with_reducible exact (hA.alloc _).alloc _)).H, cells5 (NtSt.st (by first | with_reducible exact hA | with_reducible exact hA.drew | with_reducible exact hA.alloc _ | with_reducible exact hA.drew.alloc _ | with_reducible exact (hA.alloc _).drew | with_reducible exact (hA.alloc _).alloc _)).I⟩
            clear hK K hHeld1
            (try simp only [Act.put, List.setIfInBounds_toArray, List.set_cons_zero, List.set_cons_succ])
            refine wpAnyH_take (i := 4) (v := ?_) rfl (by kernel_rfl) (by kernel_rfl) (by kernel_rfl) (fun _ _ _ h => h) (Or.inl ⟨by kernel_rfl, ?_⟩) (by assumption) ?_
            rotate_left
            · (intro w hSw; (try dsimp only at hSw); go_simp; (first | done | with_reducible rfl))
            (try simp only [Act.put, List.setIfInBounds_toArray, List.set_cons_zero, List.set_cons_succ])
            refine wpAnyH_ready (rs := [5]) (by kernel_rfl) (by simp) ?_
            refine AllReadyH.cons rfl (fun K hK => ?_) AllReadyH.nil
            go_simp
            refine name_world ?_
            intro w8 hw8
            have hA8 := hA.later (W' := w8) (by rw [hw8]; first | exact (Below.refl _ _).alloc (Nat.le_refl _) _ | exact ((Below.refl _ _).alloc (Nat.le_refl _) _).drew | exact ((Below.refl _ _).drew).alloc (Nat.le_refl _) _ | exact (((Below.refl _ _).drew).alloc (Nat.le_refl _) _).drew)
            have hN := holdsHeap (W' := w8) (note_block hA) (by subst hw8; rfl)
            have hnn := note_ne hA
            (try have hgn := Nat.ne_of_lt hl.l)
            (try replace hl := hl.later (W' := w8) (by rw [hw8]; first | exact (Below.refl _ _).alloc (Nat.le_refl _) _ | exact ((Below.refl _ _).alloc (Nat.le_refl _) _).drew | exact ((Below.refl _ _).drew).alloc (Nat.le_refl _) _ | exact (((Below.refl _ _).drew).alloc (Nat.le_refl _) _).drew))
            clear hw8
            replace hA := hA8
            clear hA8
            refine hK.out _ _ ?_ (fun hHeld3 => ?_)
            · (try dsimp only)
              first | exact ⟨cells5 (StSt.H (by first | with_reducible exact hA | with_reducible exact hA.drew | with_reducible exact hA.alloc _ | with_reducible exact hA.drew.alloc _ | with_reducible exact (hA.alloc _).drew | with_reducible exact (hA.alloc _).alloc _)), cells5 (StSt.I (by first | with_reducible exact hA | with_reducible exact hA.drew | with_reducible exact hA.alloc _ | with_reducible exact hA.drew.alloc _ | with_reducible exact (hA.alloc _).drew | with_reducible exact (hA.alloc _).alloc _))⟩ | exact ⟨cells5 (NtSt.st (by first | with_reducible exact hA | with_reducible exact hA.drew | with_reducible exact hA.alloc _ | with_reducible exact hA.drew.alloc _ | with_reducible exact (hA.alloc _).drew | with_reducible exact (hA.alloc _).alloc _)).H, cells5 (NtSt.st (by first | with_reducible exact hA | with_reducible exact hA.drew | with_reducible exact hA.alloc _ | with_reducible exact hA.drew.alloc _ | with_reducible exact (hA.alloc _).drew | with_reducible exact (hA.alloc _).alloc _)).I⟩
            clear hK K hHeld2
            (try simp only [Act.put, List.setIfInBounds_toArray, List.set_cons_zero, List.set_cons_succ])
            refine wpAnyH_ready (rs := [6]) (by kernel_rfl) (by simp) ?_
            refine AllReadyH.cons rfl (fun K hK => ?_) AllReadyH.nil
            obtain ⟨a0, a1, a2, a3, a4⟩ := cells5 hN
            have f0 := hN.free 0
            have f1 := hN.free 1
            have f2 := hN.free 2
            have f3 := hN.free 3
            have f4 := hN.free 4
            go_simp
            refine name_world ?_
            intro w9 hw9
            have hA9 := note_made hA hN hl hnn hgn
            (first | rw [← hw9] at hA9 | (replace hA9 := hA9.drew; rw [← hw9] at hA9))
            clear a0 a1 a2 a3 a4 f0 f1 f2 f3 f4 hw9 hN hl hnn hgn
            replace hA := hA9
            clear hA9
            refine hK.out _ _ ?_ (fun hHeld4 => ?_)
            · (try dsimp only)
              first | exact ⟨cells5 (StSt.H (by first | with_reducible exact hA | with_reducible exact hA.drew | with_reducible exact hA.alloc _ | with_reducible exact hA.drew.alloc _ | with_reducible exact (hA.alloc _).drew | with_reducible exact (hA.alloc _).alloc _)), cells5 (StSt.I (by first | with_reducible exact hA | with_reducible exact hA.drew | with_reducible exact hA.alloc _ | with_reducible exact hA.drew.alloc _ | with_reducible exact (hA.alloc _).drew | with_reducible exact (hA.alloc _).alloc _))⟩ | exact ⟨cells5 (NtSt.st (by first | with_reducible exact hA | with_reducible exact hA.drew | with_reducible exact hA.alloc _ | with_reducible exact hA.drew.alloc _ | with_reducible exact (hA.alloc _).drew | with_reducible exact (hA.alloc _).alloc _)).H, cells5 (NtSt.st (by first | with_reducible exact hA | with_reducible exact hA.drew | with_reducible exact hA.alloc _ | with_reducible exact hA.drew.alloc _ | with_reducible exact (hA.alloc _).drew | with_reducible exact (hA.alloc _).alloc _)).I⟩
            clear hK K hHeld3
            (try simp only [Act.put, List.setIfInBounds_toArray, List.set_cons_zero, List.set_cons_succ])
            refine wpAnyH_done (by kernel_rfl) ?_ _
            obtain ⟨p0, p1, p2, p3, p4⟩ := cells5 hA.st.H
            go_wp2_with fail
            refine (is_tx (sty_1 hsm hne hz1) _ _ m (forest_new_kids _ 1 (spB sb.data.toList) _ rfl rfl rfl rfl hA.st.kids) (hA.st.alloc _).C).mono ?_
            rintro e w21 ⟨rfl, hb⟩
            replace hA := NtSt.later (hA.alloc _) hb
            clear hb p0 p1 p2 p3 p4
            obtain ⟨p0, p1, p2, p3, p4⟩ := cells5 hA.st.I
            go_wp2_with fail
            refine (is_tx (sty_2 hsm hne hz1) _ _ m (forest_new_kids _ 2 (spT sb.data.toList) _ rfl rfl rfl rfl hA.st.kids) (hA.st.alloc _).C).mono ?_
            rintro e w22 ⟨rfl, hb⟩
            replace hA := NtSt.later (hA.alloc _) hb
            clear hb p0 p1 p2 p3 p4
            go_wp2_with fail
            refine (is_tx (sty_3 hsm hne hz1) _ _ m (forest_new_code _ sb) (hA.st.alloc _).C).mono ?_
            rintro e w23 ⟨rfl, hb⟩
            replace hA := NtSt.later (hA.alloc _) hb
            clear hb
            go_wp2_with fail
            refine (text_any _ _).mono ?_
            rintro e w24 ⟨rfl, hb⟩
            replace hA := NtSt.later hA hb
            clear hb
            go_wp2_with fail
            refine (is_tx (sty_4 hsm hne hz1) _ _ m (forest_new_tx _ _) (hA.st.alloc _).C).mono ?_
            rintro e w25 ⟨rfl, hb⟩
            replace hA := NtSt.later (hA.alloc _) hb
            clear hb
            obtain ⟨p0, p1, p2, p3, p4⟩ := cells5 hA.N
            go_wp2_with fail
            refine (is_tx (sty_5 hsm hne hz1) _ _ m (forest_new_kids _ 6 (spN sb.data.toList) _ rfl rfl rfl rfl hA.kids) (hA.st.alloc _).C).mono ?_
            rintro e w26 ⟨rfl, hb⟩
            replace hA := NtSt.later (hA.alloc _) hb
            clear hb p0 p1 p2 p3 p4
            go_wp2_with fail
            refine (text_any _ _).mono ?_
            rintro e w27 ⟨rfl, hb⟩
            replace hA := NtSt.later hA hb
            clear hb
            go_wp2_with fail
            refine (is_tx (sty_6 hsm hne hz1) _ _ m (forest_new_tx _ _) (hA.st.alloc _).C).mono ?_
            rintro e w28 ⟨rfl, hb⟩
            replace hA := NtSt.later (hA.alloc _) hb
            clear hb
            go_wp2_with fail
            refine (text_any _ _).mono ?_
            rintro e w29 ⟨rfl, hb⟩
            replace hA := NtSt.later hA hb
            clear hb
            go_wp2_with fail
            refine (is_tx (sty_7 hsm hne hz1) _ _ m (forest_new_tx _ _) (hA.st.alloc _).C).mono ?_
            rintro e w30 ⟨rfl, hb⟩
            replace hA := NtSt.later (hA.alloc _) hb
            clear hb
            go_wp2
            go_ret
            exact ⟨rfl, hA.st.B⟩
          refine AllReadyH.cons rfl (fun K hK => ?_) AllReadyH.nil
          go_simp
          refine name_world ?_
          intro w8 hw8
          have hA8 := hA.later (W' := w8) (by rw [hw8]; first | exact (Below.refl _ _).alloc (Nat.le_refl _) _ | exact ((Below.refl _ _).alloc (Nat.le_refl _) _).drew | exact ((Below.refl _ _).drew).alloc (Nat.le_refl _) _ | exact (((Below.refl _ _).drew).alloc (Nat.le_refl _) _).drew)
          have hN := holdsHeap (W' := w8) (note_block hA) (by subst hw8; rfl)
          have hnn := note_ne hA
          (try have hgn := Nat.ne_of_lt hl.l)
          (try replace hl := hl.later (W' := w8) (by rw [hw8]; first | exact (Below.refl _ _).alloc (Nat.le_refl _) _ | exact ((Below.refl _ _).alloc (Nat.le_refl _) _).drew | exact ((Below.refl _ _).drew).alloc (Nat.le_refl _) _ | exact (((Below.refl _ _).drew).alloc (Nat.le_refl _) _).drew))
          clear hw8
          replace hA := hA8
          clear hA8
          refine hK.out _ _ ?_ (fun hHeld2 => ?_)
          · (try dsimp only)
            first | exact ⟨cells5 (StSt.H (by first | with_reducible exact hA | with_reducible exact hA.drew | with_reducible exact hA.alloc _ | with_reducible exact hA.drew.alloc _ | with_reducible exact (hA.alloc _).drew | with_reducible exact (hA.alloc _).alloc _)), cells5 (StSt.I (by first | with_reducible exact hA | with_reducible exact hA.drew | with_reducible exact hA.alloc _ | with_reducible exact hA.drew.alloc _ | with_reducible exact (hA.alloc _).drew | with_reducible exact (hA.alloc _).alloc _))⟩ | exact ⟨cells5 (NtSt.st (by first | with_reducible exact hA | with_reducible exact hA.drew | with_reducible exact hA.alloc _ | with_reducible exact hA.drew.alloc _ | with_reducible exact (hA.alloc _).drew | with_reducible exact (hA.alloc _).alloc _)).H, cells5 (NtSt.st (by first | with_reducible exact hA | with_reducible exact hA.drew | with_reducible exact hA.alloc _ | with_reducible exact hA.drew.alloc _ | with_reducible exact (hA.alloc _).drew | with_reducible exact (hA.alloc _).alloc _)).I⟩
          clear hK K hHeld1
          (try simp only [Act.put, List.setIfInBounds_toArray, List.set_cons_zero, List.set_cons_succ])
          refine wpAnyH_ready (rs := [3]) (by kernel_rfl) (by simp) ?_
          refine AllReadyH.cons rfl (fun K hK => ?_) AllReadyH.nil
          go_simp
          refine name_world ?_
          intro w8 hw8
          have hA8 := hA.later (W' := w8) (by rw [hw8]; first | exact (Below.refl _ _).alloc (Nat.le_refl _) _ | exact ((Below.refl _ _).alloc (Nat.le_refl _) _).drew | exact ((Below.refl _ _).drew).alloc (Nat.le_refl _) _ | exact (((Below.refl _ _).drew).alloc (Nat.le_refl _) _).drew)
          have hl := (note_kids hA).heap (W' := w8) (by subst hw8; rfl)
          (try have hgn := Nat.ne_of_gt hN.lt)
          (try replace hN := holdsUnder (w' := w8) hN (by rw [hw8]; first | exact (Below.refl _ _).alloc (Nat.le_refl _) _ | exact ((Below.refl _ _).alloc (Nat.le_refl _) _).drew | exact ((Below.refl _ _).drew).alloc (Nat.le_refl _) _ | exact (((Below.refl _ _).drew).alloc (Nat.le_refl _) _).drew))
          clear hw8
          replace hA := hA8
          clear hA8
          refine hK.out _ _ ?_ (fun hHeld3 => ?_)
          · (try dsimp only)
            first | exact ⟨cells5 (StSt.H (by first | with_reducible exact hA | with_reducible exact hA.drew | with_reducible exact hA.alloc _ | with_reducible exact hA.drew.alloc _ | with_reducible exact (hA.alloc _).drew | with_reducible exact (hA.alloc _).alloc _)), cells5 (StSt.I (by first | with_reducible exact hA | with_reducible exact hA.drew | with_reducible exact hA.alloc _ | with_reducible exact hA.drew.alloc _ | with_reducible exact (hA.alloc _).drew | with_reducible exact (hA.alloc _).alloc _))⟩ | exact ⟨cells5 (NtSt.st (by first | with_reducible exact hA | with_reducible exact hA.drew | with_reducible exact hA.alloc _ | with_reducible exact hA.drew.alloc _ | with_reducible exact (hA.alloc _).drew | with_reducible exact (hA.alloc _).alloc _)).H, cells5 (NtSt.st (by first | with_reducible exact hA | with_reducible exact hA.drew | with_reducible exact hA.alloc _ | with_reducible exact hA.drew.alloc _ | with_reducible exact (hA.alloc _).drew | with_reducible exact (hA.alloc _).alloc _)).I⟩
          clear hK K hHeld2
          (try simp only [Act.put, List.setIfInBounds_toArray, List.set_cons_zero, List.set_cons_succ])
          refine wpAnyH_take (i := 4) (v := ?_) rfl (by kernel_rfl) (by kernel_rfl) (by kernel_rfl) (fun _ _ _ h => h) (Or.inl ⟨by kernel_rfl, ?_⟩) (by assumption) ?_
          rotate_left
          · (intro w hSw; (try dsimp only at hSw); go_simp; (first | done | with_reducible rfl))
          (try simp only [Act.put, List.setIfInBounds_toArray, List.set_cons_zero, List.set_cons_succ])
          refine wpAnyH_ready (rs := [6]) (by kernel_rfl) (by simp) ?_
          refine AllReadyH.cons rfl (fun K hK => ?_) AllReadyH.nil
          obtain ⟨a0, a1, a2, a3, a4⟩ := cells5 hN
          have f0 := hN.free 0
          have f1 := hN.free 1
          have f2 := hN.free 2
          have f3 := hN.free 3
          have f4 := hN.free 4
          go_simp
          refine name_world ?_
          intro w9 hw9
          have hA9 := note_made hA hN hl hnn hgn
          (first | rw [← hw9] at hA9 | (replace hA9 := hA9.drew; rw [← hw9] at hA9))
          clear a0 a1 a2 a3 a4 f0 f1 f2 f3 f4 hw9 hN hl hnn hgn
          replace hA := hA9
          clear hA9
          refine hK.out _ _ ?_ (fun hHeld4 => ?_)
          · (try dsimp only)
            first | exact ⟨cells5 (StSt.H (by first | with_reducible exact hA | with_reducible exact hA.drew | with_reducible exact hA.alloc _ | with_reducible exact hA.drew.alloc _ | with_reducible exact (hA.alloc _).drew | with_reducible exact (hA.alloc _).alloc _)), cells5 (StSt.I (by first | with_reducible exact hA | with_reducible exact hA.drew | with_reducible exact hA.alloc _ | with_reducible exact hA.drew.alloc _ | with_reducible exact (hA.alloc _).drew | with_reducible exact (hA.alloc _).alloc _))⟩ | exact ⟨cells5 (NtSt.st (by first | with_reducible exact hA | with_reducible exact hA.drew | with_reducible exact hA.alloc _ | with_reducible exact hA.drew.alloc _ | with_reducible exact (hA.alloc _).drew | with_reducible exact (hA.alloc _).alloc _)).H, cells5 (NtSt.st (by first | with_reducible exact hA | with_reducible exact hA.drew | with_reducible exact hA.alloc _ | with_reducible exact hA.drew.alloc _ | with_reducible exact (hA.alloc _).drew | with_reducible exact (hA.alloc _).alloc _)).I⟩
          clear hK K hHeld3
          (try simp only [Act.put, List.setIfInBounds_toArray, List.set_cons_zero, List.set_cons_succ])
          refine wpAnyH_done (by kernel_rfl) ?_ _
          obtain ⟨p0, p1, p2, p3, p4⟩ := cells5 hA.st.H
          go_wp2_with fail
          refine (is_tx (sty_1 hsm hne hz1) _ _ m (forest_new_kids _ 1 (spB sb.data.toList) _ rfl rfl rfl rfl hA.st.kids) (hA.st.alloc _).C).mono ?_
          rintro e w21 ⟨rfl, hb⟩
          replace hA := NtSt.later (hA.alloc _) hb
          clear hb p0 p1 p2 p3 p4
          obtain ⟨p0, p1, p2, p3, p4⟩ := cells5 hA.st.I
          go_wp2_with fail
          refine (is_tx (sty_2 hsm hne hz1) _ _ m (forest_new_kids _ 2 (spT sb.data.toList) _ rfl rfl rfl rfl hA.st.kids) (hA.st.alloc _).C).mono ?_
          rintro e w22 ⟨rfl, hb⟩
          replace hA := NtSt.later (hA.alloc _) hb
          clear hb p0 p1 p2 p3 p4
          go_wp2_with fail
          refine (is_tx (sty_3 hsm hne hz1) _ _ m (forest_new_code _ sb) (hA.st.alloc _).C).mono ?_
          rintro e w23 ⟨rfl, hb⟩
          replace hA := NtSt.later (hA.alloc _) hb
          clear hb
          go_wp2_with fail
          refine (text_any _ _).mono ?_
          rintro e w24 ⟨rfl, hb⟩
          replace hA := NtSt.later hA hb
          clear hb
          go_wp2_with fail
          refine (is_tx (sty_4 hsm hne hz1) _ _ m (forest_new_tx _ _) (hA.st.alloc _).C).mono ?_
          rintro e w25 ⟨rfl, hb⟩
          replace hA := NtSt.later (hA.alloc _) hb
          clear hb
          obtain ⟨p0, p1, p2, p3, p4⟩ := cells5 hA.N
          go_wp2_with fail
          refine (is_tx (sty_5 hsm hne hz1) _ _ m (forest_new_kids _ 6 (spN sb.data.toList) _ rfl rfl rfl rfl hA.kids) (hA.st.alloc _).C).mono ?_
          rintro e w26 ⟨rfl, hb⟩
          replace hA := NtSt.later (hA.alloc _) hb
          clear hb p0 p1 p2 p3 p4
          go_wp2_with fail
          refine (text_any _ _).mono ?_
          rintro e w27 ⟨rfl, hb⟩
          replace hA := NtSt.later hA hb
          clear hb
          go_wp2_with fail
          refine (is_tx (sty_6 hsm hne hz1) _ _ m (forest_new_tx _ _) (hA.st.alloc _).C).mono ?_
          rintro e w28 ⟨rfl, hb⟩
          replace hA := NtSt.later (hA.alloc _) hb
          clear hb
          go_wp2_with fail
          refine (text_any _ _).mono ?_
          rintro e w29 ⟨rfl, hb⟩
          replace hA := NtSt.later hA hb
          clear hb
          go_wp2_with fail
          refine (is_tx (sty_7 hsm hne hz1) _ _ m (forest_new_tx _ _) (hA.st.alloc _).C).mono ?_
          rintro e w30 ⟨rfl, hb⟩
          replace hA := NtSt.later (hA.alloc _) hb
          clear hb
          go_wp2
          go_ret
          exact ⟨rfl, hA.st.B⟩
        refine AllReadyH.cons rfl (fun K hK => ?_) AllReadyH.nil
        go_simp
        refine name_world ?_
        intro w8 hw8
        have hA8 := hA.later (W' := w8) (by rw [hw8]; first | exact (Below.refl _ _).alloc (Nat.le_refl _) _ | exact ((Below.refl _ _).alloc (Nat.le_refl _) _).drew | exact ((Below.refl _ _).drew).alloc (Nat.le_refl _) _ | exact (((Below.refl _ _).drew).alloc (Nat.le_refl _) _).drew)
        have hN := holdsHeap (W' := w8) (note_block hA) (by subst hw8; rfl)
        have hnn := note_ne hA
        (try have hgn := Nat.ne_of_lt hl.l)
        (try replace hl := hl.later (W' := w8) (by rw [hw8]; first | exact (Below.refl _ _).alloc (Nat.le_refl _) _ | exact ((Below.refl _ _).alloc (Nat.le_refl _) _).drew | exact ((Below.refl _ _).drew).alloc (Nat.le_refl _) _ | exact (((Below.refl _ _).drew).alloc (Nat.le_refl _) _).drew))
        clear hw8
        replace hA := hA8
        clear hA8
        refine hK.out _ _ ?_ (fun hHeld1 => ?_)
        · (try dsimp only)
          first | exact ⟨cells5 (StSt.H (by first | with_reducible exact hA | with_reducible exact hA.drew | with_reducible exact hA.alloc _ | with_reducible exact hA.drew.alloc _ | with_reducible exact (hA.alloc _).drew | with_reducible exact (hA.alloc _).alloc _)), cells5 (StSt.I (by first | with_reducible exact hA | with_reducible exact hA.drew | with_reducible exact hA.alloc _ | with_reducible exact hA.drew.alloc _ | with_reducible exact (hA.alloc _).drew | with_reducible exact (hA.alloc _).alloc _))⟩ | exact ⟨cells5 (NtSt.st (by first | with_reducible exact hA | with_reducible exact hA.drew | with_reducible exact hA.alloc _ | with_reducible exact hA.drew.alloc _ | with_reducible exact (hA.alloc _).drew | with_reducible exact (hA.alloc _).alloc _)).H, cells5 (NtSt.st (by first | with_reducible exact hA | with_reducible exact hA.drew | with_reducible exact hA.alloc _ | with_reducible exact hA.drew.alloc _ | with_reducible exact (hA.alloc _).drew | with_reducible exact (hA.alloc _).alloc _)).I⟩
        clear hK K hHeld0
        (try simp only [Act.put, List.setIfInBounds_toArray, List.set_cons_zero, List.set_cons_succ])
        refine wpAnyH_ready (rs := [1]) (by kernel_rfl) (by simp) ?_
        refine AllReadyH.cons rfl (fun K hK => ?_) AllReadyH.nil
        go_simp
        refine (text_any ⟨#[32]⟩ _).mono ?_
        rintro e w7 ⟨rfl, hb⟩
        replace hA := StSt.later (w := w) (m := m) (gB := gB) (gI := gI) (gK := gK) (S := sb.data.toList) (by first | with_reducible exact hA | with_reducible exact hA.drew | with_reducible exact hA.alloc _ | with_reducible exact hA.drew.alloc _ | with_reducible exact (hA.alloc _).drew | with_reducible exact (hA.alloc _).alloc _) hb
        (try replace hN := holdsUnder hN hb)
        clear hb
        go_wp2_with fail
        refine hK.out _ _ ?_ (fun hHeld2 => ?_)
        · (try dsimp only)
          first | exact ⟨cells5 (StSt.H (by first | with_reducible exact hA | with_reducible exact hA.drew | with_reducible exact hA.alloc _ | with_reducible exact hA.drew.alloc _ | with_reducible exact (hA.alloc _).drew | with_reducible exact (hA.alloc _).alloc _)), cells5 (StSt.I (by first | with_reducible exact hA | with_reducible exact hA.drew | with_reducible exact hA.alloc _ | with_reducible exact hA.drew.alloc _ | with_reducible exact (hA.alloc _).drew | with_reducible exact (hA.alloc _).alloc _))⟩ | exact ⟨cells5 (NtSt.st (by first | with_reducible exact hA | with_reducible exact hA.drew | with_reducible exact hA.alloc _ | with_reducible exact hA.drew.alloc _ | with_reducible exact (hA.alloc _).drew | with_reducible exact (hA.alloc _).alloc _)).H, cells5 (NtSt.st (by first | with_reducible exact hA | with_reducible exact hA.drew | with_reducible exact hA.alloc _ | with_reducible exact hA.drew.alloc _ | with_reducible exact (hA.alloc _).drew | with_reducible exact (hA.alloc _).alloc _)).I⟩
        clear hK K hHeld1
        (try simp only [Act.put, List.setIfInBounds_toArray, List.set_cons_zero, List.set_cons_succ])
        refine wpAnyH_ready (rs := [3]) (by kernel_rfl) (by simp) ?_
        refine AllReadyH.cons rfl (fun K hK => ?_) AllReadyH.nil
        go_simp
        refine name_world ?_
        intro w8 hw8
        have hA8 := hA.later (W' := w8) (by rw [hw8]; first | exact (Below.refl _ _).alloc (Nat.le_refl _) _ | exact ((Below.refl _ _).alloc (Nat.le_refl _) _).drew | exact ((Below.refl _ _).drew).alloc (Nat.le_refl _) _ | exact (((Below.refl _ _).drew).alloc (Nat.le_refl _) _).drew)
        have hl := (note_kids hA).heap (W' := w8) (by subst hw8; rfl)
        (try have hgn := Nat.ne_of_gt hN.lt)
        (try replace hN := holdsUnder (w' := w8) hN (by rw [hw8]; first | exact (Below.refl _ _).alloc (Nat.le_refl _) _ | exact ((Below.refl _ _).alloc (Nat.le_refl _) _).drew | exact ((Below.refl _ _).drew).alloc (Nat.le_refl _) _ | exact (((Below.refl _ _).drew).alloc (Nat.le_refl _) _).drew))
        clear hw8
        replace hA := hA8
        clear hA8
        refine hK.out _ _ ?_ (fun hHeld3 => ?_)
        · (try dsimp only)
          first | exact ⟨cells5 (StSt.H (by first | with_reducible exact hA | with_reducible exact hA.drew | with_reducible exact hA.alloc _ | with_reducible exact hA.drew.alloc _ | with_reducible exact (hA.alloc _).drew | with_reducible exact (hA.alloc _).alloc _)), cells5 (StSt.I (by first | with_reducible exact hA | with_reducible exact hA.drew | with_reducible exact hA.alloc _ | with_reducible exact hA.drew.alloc _ | with_reducible exact (hA.alloc _).drew | with_reducible exact (hA.alloc _).alloc _))⟩ | exact ⟨cells5 (NtSt.st (by first | with_reducible exact hA | with_reducible exact hA.drew | with_reducible exact hA.alloc _ | with_reducible exact hA.drew.alloc _ | with_reducible exact (hA.alloc _).drew | with_reducible exact (hA.alloc _).alloc _)).H, cells5 (NtSt.st (by first | with_reducible exact hA | with_reducible exact hA.drew | with_reducible exact hA.alloc _ | with_reducible exact hA.drew.alloc _ | with_reducible exact (hA.alloc _).drew | with_reducible exact (hA.alloc _).alloc _)).I⟩
        clear hK K hHeld2
        (try simp only [Act.put, List.setIfInBounds_toArray, List.set_cons_zero, List.set_cons_succ])
        refine wpAnyH_take (i := 4) (v := ?_) rfl (by kernel_rfl) (by kernel_rfl) (by kernel_rfl) (fun _ _ _ h => h) (Or.inl ⟨by kernel_rfl, ?_⟩) (by assumption) ?_
        rotate_left
        · (intro w hSw; (try dsimp only at hSw); go_simp; (first | done | with_reducible rfl))
        (try simp only [Act.put, List.setIfInBounds_toArray, List.set_cons_zero, List.set_cons_succ])
        refine wpAnyH_ready (rs := [6]) (by kernel_rfl) (by simp) ?_
        refine AllReadyH.cons rfl (fun K hK => ?_) AllReadyH.nil
        obtain ⟨a0, a1, a2, a3, a4⟩ := cells5 hN
        have f0 := hN.free 0
        have f1 := hN.free 1
        have f2 := hN.free 2
        have f3 := hN.free 3
        have f4 := hN.free 4
        go_simp
        refine name_world ?_
        intro w9 hw9
        have hA9 := note_made hA hN hl hnn hgn
        (first | rw [← hw9] at hA9 | (replace hA9 := hA9.drew; rw [← hw9] at hA9))
        clear a0 a1 a2 a3 a4 f0 f1 f2 f3 f4 hw9 hN hl hnn hgn
        replace hA := hA9
        clear hA9
        refine hK.out _ _ ?_ (fun hHeld4 => ?_)
        · (try dsimp only)
          first | exact ⟨cells5 (StSt.H (by first | with_reducible exact hA | with_reducible exact hA.drew | with_reducible exact hA.alloc _ | with_reducible exact hA.drew.alloc _ | with_reducible exact (hA.alloc _).drew | with_reducible exact (hA.alloc _).alloc _)), cells5 (StSt.I (by first | with_reducible exact hA | with_reducible exact hA.drew | with_reducible exact hA.alloc _ | with_reducible exact hA.drew.alloc _ | with_reducible exact (hA.alloc _).drew | with_reducible exact (hA.alloc _).alloc _))⟩ | exact ⟨cells5 (NtSt.st (by first | with_reducible exact hA | with_reducible exact hA.drew | with_reducible exact hA.alloc _ | with_reducible exact hA.drew.alloc _ | with_reducible exact (hA.alloc _).drew | with_reducible exact (hA.alloc _).alloc _)).H, cells5 (NtSt.st (by first | with_reducible exact hA | with_reducible exact hA.drew | with_reducible exact hA.alloc _ | with_reducible exact hA.drew.alloc _ | with_reducible exact (hA.alloc _).drew | with_reducible exact (hA.alloc _).alloc _)).I⟩
        clear hK K hHeld3
        (try simp only [Act.put, List.setIfInBounds_toArray, List.set_cons_zero, List.set_cons_succ])
        refine wpAnyH_done (by kernel_rfl) ?_ _
        obtain ⟨p0, p1, p2, p3, p4⟩ := cells5 hA.st.H
        go_wp2_with fail
        refine (is_tx (sty_1 hsm hne hz1) _ _ m (forest_new_kids _ 1 (spB sb.data.toList) _ rfl rfl rfl rfl hA.st.kids) (hA.st.alloc _).C).mono ?_
        rintro e w21 ⟨rfl, hb⟩
        replace hA := NtSt.later (hA.alloc _) hb
        clear hb p0 p1 p2 p3 p4
        obtain ⟨p0, p1, p2, p3, p4⟩ := cells5 hA.st.I
        go_wp2_with fail
        refine (is_tx (sty_2 hsm hne hz1) _ _ m (forest_new_kids _ 2 (spT sb.data.toList) _ rfl rfl rfl rfl hA.st.kids) (hA.st.alloc _).C).mono ?_
        rintro e w22 ⟨rfl, hb⟩
        replace hA := NtSt.later (hA.alloc _) hb
        clear hb p0 p1 p2 p3 p4
        go_wp2_with fail
        refine (is_tx (sty_3 hsm hne hz1) _ _ m (forest_new_code _ sb) (hA.st.alloc _).C).mono ?_
        rintro e w23 ⟨rfl, hb⟩
        replace hA := NtSt.later (hA.alloc _) hb
        clear hb
        go_wp2_with fail
        refine (text_any _ _).mono ?_
        rintro e w24 ⟨rfl, hb⟩
        replace hA := NtSt.later hA hb
        clear hb
        go_wp2_with fail
        refine (is_tx (sty_4 hsm hne hz1) _ _ m (forest_new_tx _ _) (hA.st.alloc _).C).mono ?_
        rintro e w25 ⟨rfl, hb⟩
        replace hA := NtSt.later (hA.alloc _) hb
        clear hb
        obtain ⟨p0, p1, p2, p3, p4⟩ := cells5 hA.N
        go_wp2_with fail
        refine (is_tx (sty_5 hsm hne hz1) _ _ m (forest_new_kids _ 6 (spN sb.data.toList) _ rfl rfl rfl rfl hA.kids) (hA.st.alloc _).C).mono ?_
        rintro e w26 ⟨rfl, hb⟩
        replace hA := NtSt.later (hA.alloc _) hb
        clear hb p0 p1 p2 p3 p4
        go_wp2_with fail
        refine (text_any _ _).mono ?_
        rintro e w27 ⟨rfl, hb⟩
        replace hA := NtSt.later hA hb
        clear hb
        go_wp2_with fail
        refine (is_tx (sty_6 hsm hne hz1) _ _ m (forest_new_tx _ _) (hA.st.alloc _).C).mono ?_
        rintro e w28 ⟨rfl, hb⟩
        replace hA := NtSt.later (hA.alloc _) hb
        clear hb
        go_wp2_with fail
        refine (text_any _ _).mono ?_
        rintro e w29 ⟨rfl, hb⟩
        replace hA := NtSt.later hA hb
        clear hb
        go_wp2_with fail
        refine (is_tx (sty_7 hsm hne hz1) _ _ m (forest_new_tx _ _) (hA.st.alloc _).C).mono ?_
        rintro e w30 ⟨rfl, hb⟩
        replace hA := NtSt.later (hA.alloc _) hb
        clear hb
        go_wp2
        go_ret
        exact ⟨rfl, hA.st.B⟩
  · obtain ⟨n, hn⟩ : ∃ n, xs.length = n := ⟨_, rfl⟩
    rw [hn] at hc hlen hgo ⊢
    rcases (show n = 0 ∨ 1000 < n by omega) with h0 | h0
    · clear hn
      clear hgo hwf hcell hR
      subst h0
      go_enter Tryz.func8, Tryz.ntmps8
      go_wp2_with fail
      refine ca.mono ?_
      clear ca
      rintro e w1 ⟨rfl, hb1⟩
      have HB1 := Lib.hid hb1
      have ca2 := alive_any w1 m ((hb1.cell (p := ⟨0, 0, none⟩) hB).trans HM.out)
      have hs1 := hb1.size
      clear hb1
      go_wp2_with fail
      refine ca2.mono ?_
      clear ca2
      rintro e w2 ⟨rfl, hb2'⟩
      have HB2 := Lib.hid (HB1.out.trans (hb2'.mono hs1))
      clear hb2'
      go_wp2
      go_ret
      exact ⟨rfl, HB2.out⟩
    · have t0 : ((n : Int) == 0) = false := by rw [beq_eq_false_iff_ne]; omega
      clear hgo hwf hcell hR
      go_enter Tryz.func8, Tryz.ntmps8
      go_wp2_with fail
      refine ca.mono ?_
      clear ca
      rintro e w1 ⟨rfl, hb1⟩
      have HB1 := Lib.hid hb1
      have ca2 := alive_any w1 m ((hb1.cell (p := ⟨0, 0, none⟩) hB).trans HM.out)
      have hs1 := hb1.size
      clear hb1
      go_wp2_with fail
      refine ca2.mono ?_
      clear ca2
      rintro e w2 ⟨rfl, hb2'⟩
      have HB2 := Lib.hid (HB1.out.trans (hb2'.mono hs1))
      clear hb2'
      go_wp2
      go_ret
      exact ⟨rfl, HB2.out⟩
end Go.Proofs.YtgiiglcgfbnaoaaGreatDoor

namespace Go.Bd
open Go.ChangeShapes Go.WideShapes Go.RowKit
theorem addr_lit' {w : World} {a : Addr} {v : Value} (h : w.cell? (a.add 0) = some v) : ∃ b off, a = ⟨b, off, none⟩ ∧ b < w.heap.size := by
  obtain ⟨b, off, spot⟩ := a
  have e : (⟨b, off, spot⟩ : Addr).add 0 = ⟨b, off, spot⟩ := by simp [Addr.add]
  rw [e] at h
  refine ⟨b, off, ?_, World.block_lt_of_cell? w _ h⟩
  cases spot with
  | none => rfl
  | some s =>
    exfalso
    simp only [World.cell?] at h
    split at h <;> simp at h
theorem rd_of' {w : World} {a : Addr} {len cap : Nat} {V : Nat → Value} (hl : len ≤ cap) (h : ∀ i, i < len → w.cell? (a.add i) = some (V i)) : Rd w w.heap.size (.slice (some a) len cap) ((List.range len).map V) := by
  refine ⟨some a, cap, by simp, by simpa using hl, fun hn => ?_⟩
  have hn' : 0 < len := by simpa using hn
  obtain ⟨b, off, rfl, hb⟩ := addr_lit' (h 0 hn')
  refine ⟨b, off, rfl, hb, fun j u hu => ?_⟩
  have hj : j < len := by have := (List.getElem?_eq_some_iff.1 hu).1; simpa using this
  rw [List.getElem?_map, List.getElem?_range hj] at hu
  have := h j hj
  rw [Addr.add_lit] at this
  rw [this]; exact hu
theorem open_nums {H : Type} {enc : TypeId × Value → H} {P : Program} {W : World} {base : Nat} {sp : Nat → Bool} {hd : Bool} {v : Value} {d : DataW H} {p : List MemPlace} {t e : TypeId} {k : IntKind} {bs : Nat}
    (ht : P.underlying t = some (.slice e)) (he : P.underlying e = some (.int k)) (hc : P.cellsOf e = 1) (hbs : P.bytesOf e = bs) (h1 : 1 ≤ bs)
    (hv : Value.okWide P W .any base t v) (h : DataW.Trod enc P W 0 sp hd t v d p) :
    ∃ xs : List Int, Rd W W.heap.size v (xs.map (Value.int k)) ∧ (∀ x ∈ xs, (Lit.int k x).wf = true) ∧ ((∀ n ∈ d.weights P t, n ≤ reachBytes) → xs.length ≤ 140737488355328) := by
  obtain ⟨A, l, c, rfl⟩ := okWide_slice ht hv
  obtain ⟨fuel, hf⟩ := h
  rcases Deep.open_slice1 (e := e) ht hc hf with ⟨h1', h2⟩ | ⟨a, len, cap, m, n, V, D, Pl, h1', _, hl, _, hmm, h2, hx⟩
  · simp only [Value.cells, List.cons.injEq, and_true] at h1'
    rw [h1']
    exact ⟨[], Rd.nil _ _, (fun _ h => by cases h), (fun _ => Nat.zero_le _)⟩
  · simp only [Value.cells, List.cons.injEq, and_true] at h1'
    rw [h1']
    simp only [Prod.mk.injEq] at h2
    obtain ⟨rfl, _⟩ := h2
    have hlm : len ≤ m := by rw [hmm]; split <;> omega
    have each : ∀ i, i < len → ∃ z : Int, V i = .int k z ∧ (Lit.int k z).wf = true := by
      intro i hi
      obtain ⟨s, h1, _, h3⟩ := DataW.trod_int he (hx i (by omega)).2
      simp only [List.cons.injEq, and_true] at h1
      exact ⟨s, h1, h3⟩
    obtain ⟨S, hS⟩ := Deep.choose_lt each
    refine ⟨(List.range len).map S, ?_, fun x hx => ?_, fun hw => ?_⟩
    · have hr := rd_of' (w := W) (V := fun i => .int k (S i)) hl (fun i hi => by rw [(hx i (by omega)).1, (hS i hi).1])
      rw [List.map_map]
      exact hr
    · obtain ⟨i, hi, rfl⟩ := List.mem_map.1 hx
      exact (hS i (by simpa using hi)).2
    · have := hw _ (by simp only [DataW.weights, ht]; exact List.mem_cons_self ..)
      simp only [List.length_map, List.length_range, hbs] at this
      unfold reachBytes at this
      simp only [List.length_map, List.length_range]
      have h2 : (len + (m - len)) * 1 ≤ (len + (m - len)) * bs := Nat.mul_le_mul_left _ h1
      omega
end Go.Bd
namespace Go.Proofs.YtgiiglcgfbnaoaaGreatDoor.spansStyles
open Go.ChangeShapes Go.WideShapes Go.ChangeAt Go.RowKit Go.Bd Go.WideMaps Go.WideElems
open Go.ChangeMaps (open_string shut_string)
set_option maxRecDepth 100000 in
theorem contract (H : Type) (enc : TypeId × Value → H) (W : World) (base : Nat) (args : Array Value) (ds gs : List (DataW H)) (before : List MemPlace)
    (hval : ∀ (j : Nat) t v, Tryz.f8.params[j]? = some t → args[j]? = some v → Value.okWide Tryz.prog W .any base t v)
    (hW : DataW.Whole enc Tryz.prog Tryz.f8.params.toList Rows.spansStylesSpec.vars false W args.toList ds gs before) (hsh : W.ShapedOpen Tryz.prog)
    (hsz : (DataW.weightsEach Tryz.prog (Tryz.f8.params.toList ++ (OpenSpec.ofChange Rows.spansStylesSpec).bare.plain.varTypes Tryz.prog) (ds ++ gs)).all (· ≤ reachBytes) = true) :
    Calls Tryz.prog 8 args W fun e W' => ∃ v, e = .returned v ∧ Rows.spansStylesSpec.post enc Tryz.prog Tryz.f8 false true false false W args v W' := by
  obtain ⟨m, hm⟩ := maxLen_cell W hsh
  have hW' := hW
  obtain ⟨p, q, hA0, hV, rfl, hfz, hnd⟩ := hW
  have hA : DataW.TrodAll enc Tryz.prog W 0 (fun _ => true) true Tryz.f8.params.toList args.toList ds p := hA0
  rw [Tryz.params8] at hA hval hsz
  obtain ⟨v0, vs0, d0, ds0, p0, q0, hargs, rfl, rfl, h0, r0⟩ := trodAll_cons hA
  obtain ⟨rfl, rfl, rfl⟩ := trodAll_nil r0
  obtain rfl : args = #[v0] := by cases args; simp_all
  obtain ⟨rfl, rfl⟩ := trodVars_none hV
  obtain ⟨xs0, hR0, hwf0, bs0⟩ := open_nums (bs := 1) Tryz.underlying45 Tryz.underlying5 (by kernel_rfl) (by kernel_rfl) (by decide) (hval 0 45 v0 rfl rfl) h0
  have b0 := bs0 (fun n hn => by have := List.all_eq_true.1 hsz n (DataW.weights_mem_each (j := 0) rfl rfl n hn); simpa using this)
  refine (spansStyles_true v0 xs0 m W hm hR0 hwf0 b0).mono fun e W' ⟨he, hg⟩ => ?_
  subst he
  exact law_post hW' hg laidOut (by rw [Tryz.params8]; intro t ht; simp at ht; subst ht; exact ⟨by kernel_rfl, of_decide_eq_true (by kernel_rfl)⟩) rfl rfl (by kernel_rfl) Tryz.underlying4
theorem laid_met (os : Os) : laidMet Tryz.prog Rows.spansStylesRow.laid ((laidWorld os).forCall (fun _ _ => 0) ⟨#[], #[.slice none 0 0], []⟩).memory :=
  laidMet_of_run' 8 (by kernel_rfl) (by kernel_rfl)
theorem reads (os : Os) {H : Type} (enc : TypeId × Value → H) : ∃ places, DataW.whole enc Tryz.prog ((laidWorld os).forCall (fun _ _ => 0) ⟨#[], #[.slice none 0 0], []⟩).memory Tryz.f8.params.toList Rows.spansStylesSpec.vars false (#[.slice none 0 0] : Array Value).toList 8 = some ([.nil], [], places) :=
  ⟨[], by kernel_rfl⟩
set_option maxRecDepth 100000 in
theorem lifted (os : Os) (started : os.Started) (H : Type) (enc : TypeId × Value → H) (F : Stop.Interp) :
    ReturnsInHanded {} Tryz.checked os 8 .any ((OpenSpec.ofChange Rows.spansStylesSpec).preRow enc Tryz.prog Tryz.f8 Rows.spansStylesRow.domain false Rows.spansStylesRow.laid) (((OpenSpec.ofChange Rows.spansStylesSpec).at F).post enc Tryz.prog Tryz.f8 false true false false) := by
  obtain ⟨places, hx⟩ := reads os enc
  refine returnsInHanded_of_row (C := Tryz.checked) (s := OpenSpec.ofChange Rows.spansStylesSpec) own started (by kernel_rfl) Tryz.func8
    (witness_row_at (enc := enc) (C := Tryz.checked) false (laidWorld os) #[.slice none 0 0] rfl (by kernel_rfl) (by kernel_rfl) (by kernel_rfl)
      (OpenSpec.preRow_of_cond 8 hx (by kernel_rfl) (fun k hk => by cases hk) (by kernel_rfl) (laid_met os))) ?_
  intro W base args ds gs before hval hW _ _ hsz _ hsh _
  exact contract H enc W base args ds gs before hval hW hsh hsz
theorem said : Rows.SpansStylesSaid :=
  OpenClaim.holds_of_cond 8 Tryz.f8 rfl rfl rfl rfl rfl rfl rfl ⟨rfl, rfl, rfl, rfl, rfl⟩ rfl rfl rfl rfl rfl (by kernel_rfl) Tryz.func8 (by kernel_rfl)
    (of_decide_eq_true (by kernel_rfl)) (by unfold Func.isWrapper; first | (rw [if_pos (by decide +kernel)]; kernel_rfl) | (rw [if_neg (by decide +kernel)]; exact ⟨rfl, rfl⟩))
    (fun os started H enc _ F => by rw [OpenClaim.pre_eq_preRow]; exact lifted os started H enc F)
theorem plain (f : FuncId) (fn : Func) (hf : Tryz.pinned.checked.prog.funcNamed Tryz.f8.name = some f) (hfn : Tryz.pinned.checked.prog.funcs[f]? = some fn) :
    false = Tryz.pinned.checked.prog.looks [] ∧ ∀ (j : Nat) t, fn.params[j]? = some t → Tryz.pinned.checked.prog.wantsStandIn t = false := by
  obtain rfl : f = 8 := Option.some.inj ((show Tryz.prog.funcNamed Tryz.f8.name = some 8 by kernel_rfl).symm.trans hf) |>.symm
  obtain rfl : fn = Tryz.f8 := (Option.some.inj (Tryz.func8.symm.trans hfn)).symm
  refine ⟨by kernel_rfl, fun j t ht => ?_⟩
  rw [Tryz.params8] at ht
  obtain rfl : t = 45 := by simpa using Array.mem_of_getElem? ht
  exact (show Tryz.prog.wantsStandIn 45 = false by kernel_rfl)
theorem card : Rows.SpansStylesCardSaid :=
  Claim7.holds_tied_plain_at .later [] _ _ _ _ said (fun _ h => by cases h) (by kernel_rfl) (fun _ h => by cases h) spansStyles_row_tie rfl ⟨rfl, rfl⟩ (by kernel_rfl) rfl plain (by kernel_rfl)
end Go.Proofs.YtgiiglcgfbnaoaaGreatDoor.spansStyles
