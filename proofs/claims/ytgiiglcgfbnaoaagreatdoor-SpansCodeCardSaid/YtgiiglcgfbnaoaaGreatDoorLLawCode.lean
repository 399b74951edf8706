/-
  The law SpansCode: for every input it answers true, and the input reads as it did: the row, and its card. Its conditions: those of the given row alone.
-/
import Derived.Test.YtgiiglcgfbnaoaaGreatDoorK4
set_option linter.unusedSimpArgs false
set_option linter.unusedVariables false
namespace Go.Proofs.YtgiiglcgfbnaoaaGreatDoor
open Go.RowKit Go.Bd
theorem plain_or_sign (c : UInt8) : c = 42 ∨ c = 95 ∨ c = 96 ∨ c = 60 ∨ c = 40 ∨ c = 94 ∨ c = 93 ∨ c = 92 ∨ plainC c = true := by
  unfold plainC
  by_cases h1 : c = 42; · exact .inl h1
  by_cases h2 : c = 95; · exact .inr (.inl h2)
  by_cases h3 : c = 96; · exact .inr (.inr (.inl h3))
  by_cases h4 : c = 60; · exact .inr (.inr (.inr (.inl h4)))
  by_cases h5 : c = 40; · exact .inr (.inr (.inr (.inr (.inl h5))))
  by_cases h6 : c = 94; · exact .inr (.inr (.inr (.inr (.inr (.inl h6)))))
  by_cases h7 : c = 93; · exact .inr (.inr (.inr (.inr (.inr (.inr (.inl h7))))))
  by_cases h8 : c = 92; · exact .inr (.inr (.inr (.inr (.inr (.inr (.inr (.inl h8)))))))
  refine .inr (.inr (.inr (.inr (.inr (.inr (.inr (.inr ?_)))))))
  simp [h1, h2, h3, h4, h5, h6, h7, h8]
theorem all_snoc {s : ByteArray} {k : Nat} (hk : k < s.size) {p : UInt8 → Bool} (h : (s.data.toList.take k).all p = true) (hp : p s[k] = true) : (s.data.toList.take (k + 1)).all p = true := by
  have hl : k < s.data.toList.length := by simpa using hk
  rw [List.take_add_one, List.all_append, h, List.getElem?_eq_getElem hl]
  have e : s[k] = s.data.toList[k] := rfl
  rw [e] at hp
  simp only [Option.toList_some, List.all_cons, List.all_nil, Bool.and_true, Bool.true_and]
  exact hp
theorem mk_list (s : ByteArray) : (⟨s.data.toList.toArray⟩ : ByteArray) = s := by simp
set_option maxRecDepth 100000 in
set_option maxHeartbeats 4000000 in
theorem spansNone_true (s : ByteArray) (m : Int) (w : World) (hm : w.cell? ⟨0, 0, none⟩ = some (.int .i64 m)) (hs : s.size ≤ 140737488355328) :
    Calls Tryz.prog 5 #[.string s] w fun e w' => e = .returned (.bool true) ∧ Below w.heap.size w w' := by
  have hB : 0 < w.heap.size := World.block_lt_of_cell? w _ hm
  have HM := Lib.hid hm
  have ca := alive_any w m hm
  clear hm
  by_cases hbig : s.size ≤ 20000
  · rcases emptyB s with ⟨z1, z2⟩ | ⟨z1, z2⟩
    all_goals
      go_enter Tryz.func5, Tryz.ntmps5
      go_wp2_with fail
      refine ca.mono ?_
      clear ca
      rintro e w1 ⟨rfl, hb1⟩
      have HB1 := Lib.hid hb1
      have hs1 := hb1.size
      clear hb1
      go_wp2
      go_loopg [3] s.size (fun q i wr => wr = w1 ∧ ∃ k : Nat, k + q = s.size ∧ i = .int .i64 (k : Int) ∧ Hid ((s.data.toList.take k).all plainC = true))
      case atStart => exact ⟨rfl, 0, by omega, rfl, (rfl : (s.data.toList.take 0).all plainC = true)⟩
      case round =>
        obtain ⟨rfl, k, hk, rfl, HP⟩ := hrel
        by_cases hlt : k < s.size
        · rcases plain_or_sign s[k] with h | h | h | h | h | h | h | h | h
          case inr.inr.inr.inr.inr.inr.inr.inr =>
            have HP2 := Lib.hid (all_snoc hlt HP.out h)
            obtain ⟨n1, n2, n3, n4, n5, n6, n7, n8⟩ := plain_ne h
            have q1 := neB (d := 42) (k := 42) rfl n1
            have q2 := neB (d := 95) (k := 95) rfl n2
            have q3 := neB (d := 60) (k := 60) rfl n3
            have q4 := neB (d := 40) (k := 40) rfl n4
            have q5 := neB (d := 94) (k := 94) rfl n5
            have q6 := neB (d := 93) (k := 93) rfl n6
            have q7 := neB (d := 92) (k := 92) rfl n7
            have q8 := neB (d := 96) (k := 96) rfl n8
            clear h n1 n2 n3 n4 n5 n6 n7 n8
            go_wp2
            go_roundg (gk - 1)
            case measure => omega
            case rel => exact ⟨rfl, k + 1, by omega, by go_num, HP2.out⟩
          case inl =>
            have q0 := isB (d := 42) (k := 42) rfl h
            clear h
            go_wp2
            go_ret
            exact ⟨rfl, HB1.out⟩
          case inr.inl =>
            have q0 := neB (c := s[k]) (d := 42) (k := 42) rfl (by rw [h]; decide)
            have q1 := isB (d := 95) (k := 95) rfl h
            clear h
            go_wp2
            go_ret
            exact ⟨rfl, HB1.out⟩
          case inr.inr.inl =>
            have q0 := neB (c := s[k]) (d := 42) (k := 42) rfl (by rw [h]; decide)
            have q1 := neB (c := s[k]) (d := 95) (k := 95) rfl (by rw [h]; decide)
            have q2 := isB (d := 96) (k := 96) rfl h
            clear h
            go_wp2
            go_ret
            exact ⟨rfl, HB1.out⟩
          case inr.inr.inr.inl =>
            have q0 := neB (c := s[k]) (d := 42) (k := 42) rfl (by rw [h]; decide)
            have q1 := neB (c := s[k]) (d := 95) (k := 95) rfl (by rw [h]; decide)
            have q2 := neB (c := s[k]) (d := 96) (k := 96) rfl (by rw [h]; decide)
            have q3 := isB (d := 60) (k := 60) rfl h
            clear h
            go_wp2
            go_ret
            exact ⟨rfl, HB1.out⟩
          case inr.inr.inr.inr.inl =>
            have q0 := neB (c := s[k]) (d := 42) (k := 42) rfl (by rw [h]; decide)
            have q1 := neB (c := s[k]) (d := 95) (k := 95) rfl (by rw [h]; decide)
            have q2 := neB (c := s[k]) (d := 96) (k := 96) rfl (by rw [h]; decide)
            have q3 := neB (c := s[k]) (d := 60) (k := 60) rfl (by rw [h]; decide)
            have q4 := isB (d := 40) (k := 40) rfl h
            clear h
            go_wp2
            go_ret
            exact ⟨rfl, HB1.out⟩
          case inr.inr.inr.inr.inr.inl =>
            have q0 := neB (c := s[k]) (d := 42) (k := 42) rfl (by rw [h]; decide)
            have q1 := neB (c := s[k]) (d := 95) (k := 95) rfl (by rw [h]; decide)
            have q2 := neB (c := s[k]) (d := 96) (k := 96) rfl (by rw [h]; decide)
            have q3 := neB (c := s[k]) (d := 60) (k := 60) rfl (by rw [h]; decide)
            have q4 := neB (c := s[k]) (d := 40) (k := 40) rfl (by rw [h]; decide)
            have q5 := isB (d := 94) (k := 94) rfl h
            clear h
            go_wp2
            go_ret
            exact ⟨rfl, HB1.out⟩
          case inr.inr.inr.inr.inr.inr.inl =>
            have q0 := neB (c := s[k]) (d := 42) (k := 42) rfl (by rw [h]; decide)
            have q1 := neB (c := s[k]) (d := 95) (k := 95) rfl (by rw [h]; decide)
            have q2 := neB (c := s[k]) (d := 96) (k := 96) rfl (by rw [h]; decide)
            have q3 := neB (c := s[k]) (d := 60) (k := 60) rfl (by rw [h]; decide)
            have q4 := neB (c := s[k]) (d := 40) (k := 40) rfl (by rw [h]; decide)
            have q5 := neB (c := s[k]) (d := 94) (k := 94) rfl (by rw [h]; decide)
            have q6 := isB (d := 93) (k := 93) rfl h
            clear h
            go_wp2
            go_ret
            exact ⟨rfl, HB1.out⟩
          case inr.inr.inr.inr.inr.inr.inr.inl =>
            have q0 := neB (c := s[k]) (d := 42) (k := 42) rfl (by rw [h]; decide)
            have q1 := neB (c := s[k]) (d := 95) (k := 95) rfl (by rw [h]; decide)
            have q2 := neB (c := s[k]) (d := 96) (k := 96) rfl (by rw [h]; decide)
            have q3 := neB (c := s[k]) (d := 60) (k := 60) rfl (by rw [h]; decide)
            have q4 := neB (c := s[k]) (d := 40) (k := 40) rfl (by rw [h]; decide)
            have q5 := neB (c := s[k]) (d := 94) (k := 94) rfl (by rw [h]; decide)
            have q6 := neB (c := s[k]) (d := 93) (k := 93) rfl (by rw [h]; decide)
            have q7 := isB (d := 92) (k := 92) rfl h
            clear h
            go_wp2
            go_ret
            exact ⟨rfl, HB1.out⟩
        · obtain rfl : k = s.size := by omega
          have hpl : s.data.toList.all plainC = true := by
            have h := HP.out
            rw [List.take_of_length_le (by simp)] at h
            exact h
          obtain ⟨he, hf⟩ := spans_plain hpl
          have hf2 : faultsOf s.data.toList = [] := (faultsOf_nil _).2 hf
          have hc1 := (HB1.out.cell (p := ⟨0, 0, none⟩) hB).trans HM.out
          first
          | (rw [ByteArray.toList_eq] at z1
             rw [if_pos z1] at he
             have ci := is_any s [] (by omega) hf2 he (.slice none 0 0) wr m (Forest.nil _ _) hc1
             clear he hf hf2 hpl hc1 HP
             rw [← ByteArray.toList_eq] at z1
             go_wp2_with fail
             refine ci.mono ?_
             clear ci
             rintro e w2 ⟨rfl, hb2⟩
             have HB2 := Lib.hid (HB1.out.trans (hb2.mono hs1))
             clear hb2
             go_wp2
             go_ret
             exact ⟨rfl, HB2.out⟩)
          | (have z3 : s.data.toList ≠ [] := by rw [← ByteArray.toList_eq]; exact z1
             rw [if_neg z3] at he
             have cp := parseSpans_any s wr (by omega) m hc1
             have HE := Lib.hid he
             have HF2 := Lib.hid hf2
             have HC1 := Lib.hid hc1
             clear he hf hf2 hpl hc1 HP z3
             go_wp2_with fail
             refine cp.mono ?_
             clear cp
             rintro e w2 ⟨sv, fv, rfl, hb2, hf2, hr2⟩
             obtain ⟨Af, cf, rfl, _⟩ := own_slice2 hr2
             have hs2 := hb2.size
             rw [HE.out] at hf2
             obtain ⟨A2, c2, rfl, _⟩ := hf2.len
             have HFO := Lib.hid hf2
             have HB2 := Lib.hid (HB1.out.trans (hb2.mono hs1))
             clear hb2 hf2 hr2
             go_wp2_with fail
             refine (text_any s w2).mono ?_
             rintro e w3 ⟨rfl, hb3⟩
             have hs3 := hb3.size
             have hB3 : Below w.heap.size w w3 := HB2.out.trans (hb3.mono (by omega))
             have hfo3 : Forest w3 (· < w3.heap.size) (.slice A2 [txt s.data.toList].length c2) [txt s.data.toList] := (HFO.out.under hb3 (fun _ h => h)).keep (fun b hb => by omega) (fun _ _ _ h => h)
             have hft := forest_new_txt w3 s.data.toList
             rw [mk_list] at hft
             have ci := is_any s [txt s.data.toList] (by omega) HF2.out HE.out _ _ m hft ((cellAlloc _ ((hB3.cell (p := ⟨0, 0, none⟩) hB).trans HM.out)))
             have HB3 := Lib.hid hB3
             have HFO3 := Lib.hid hfo3
             clear hb3 hB3 hfo3 hft
             go_wp2_with fail
             refine ci.mono ?_
             clear ci
             rintro e w4 ⟨rfl, hb4⟩
             have hs4 := hb4.size
             simp only [World.size_alloc] at hs4
             have hfo4 : Forest w4 (· < w4.heap.size) (.slice A2 [txt s.data.toList].length c2) [txt s.data.toList] := ((HFO3.out.under ((Below.refl w3.heap.size w3).alloc (Nat.le_refl _) _) (fun _ h => h)).under (hb4.mono (by simp)) (fun _ h => h)).keep (fun b hb => by omega) (fun _ _ _ h => h)
             have cl := Plain_any [txt s.data.toList] (by simp [manyL, many1, txt]) (by simp [sayL, say1, txt]; omega) _ w4 hfo4
             have e1 : sayL [txt s.data.toList] = s.data.toList := by simp [sayL, say1, txt]
             rw [e1, mk_list] at cl
             have HB4 := Lib.hid ((HB3.out.alloc (by omega) _).trans (hb4.mono (by simp; omega)))
             clear hb4 hfo4 e1
             go_wp2_with fail
             refine cl.mono ?_
             clear cl
             rintro e w5 ⟨rfl, hb5⟩
             have HB5 := Lib.hid (HB4.out.trans (hb5.mono (by omega)))
             clear hb5
             go_wp2
             go_ret
             exact ⟨rfl, HB5.out⟩)
  · have hb2 : (20000 : Int) < (s.size : Int) := by omega
    go_enter Tryz.func5, Tryz.ntmps5
    go_wp2_with fail
    refine ca.mono ?_
    clear ca
    rintro e w1 ⟨rfl, hb1⟩
    have HB1 := Lib.hid hb1
    have ca2 := alive_any w1 m ((hb1.cell (p := ⟨0, 0, none⟩) hB).trans HM.out)
    have hs1 := hb1.size
    clear hb1
    go_wp2_with fail
    refine ca2.mono ?_
    clear ca2
    rintro e w2 ⟨rfl, hb2'⟩
    have HB2 := Lib.hid (HB1.out.trans (hb2'.mono hs1))
    clear hb2'
    go_wp2
    go_ret
    exact ⟨rfl, HB2.out⟩
end Go.Proofs.YtgiiglcgfbnaoaaGreatDoor
namespace Go.Bd
theorem faults_open {w : Bs} (hw : (96 : UInt8) ∉ w) : ∃ l, faultsOf (96 :: w) = 7 :: l := by
  obtain ⟨l, h⟩ := code_open hw
  refine ⟨(sortF l).map (·.2), ?_⟩
  unfold faultsOf
  rw [h, sortF]
  have e : ∀ m : List (Nat × Nat), insF (0, 7) m = (0, 7) :: m := fun m => by
    cases m with
    | nil => rfl
    | cons q m => rw [insF, if_pos (Nat.zero_le _)]
  rw [e]
  rfl
/-- what a text's end tells -/
theorem of_end {s : Bs} {x : Sp} (h : endP s = ⟨[⟨⟨[x], []⟩, 0, [], 0⟩], []⟩) : faultsOf s = [] ∧ spansOf s = [x] := by
  refine ⟨(faultsOf_nil _).2 (by unfold faultsAt; rw [h]), ?_⟩
  unfold spansOf
  rw [h]
  rfl
theorem of_text {s : Bs} (hn : s ≠ []) (h : AllText s) : faultsOf s = [] ∧ spansOf s = [txt s] := by
  have h' : endP s = ⟨[⟨⟨[], s⟩, 0, [], 0⟩], []⟩ := h
  refine ⟨(faultsOf_nil _).2 (by unfold faultsAt; rw [h']), ?_⟩
  unfold spansOf
  rw [h']
  simp [Rw.flush, hn]
/-- one of sound spans -/
theorem snd_at : ∀ {l : List Sp} {d p k : Nat} {x : Sp}, sndL l d p = true → l[k]? = some x → snd1 x d = true ∧ (x.kind = 0 → (k = 0 → p ≠ 0) ∧ ∀ y, 0 < k → l[k - 1]? = some y → y.kind ≠ 0)
  | [], _, _, _, _, _, hx => by simp at hx
  | y :: l, d, p, 0, x, h, hx => by
    simp only [List.getElem?_cons_zero, Option.some.injEq] at hx
    subst hx
    simp only [sndL, Bool.and_eq_true, Bool.not_eq_true', Bool.and_eq_false_iff, decide_eq_false_iff_not] at h
    exact ⟨h.1.1, fun h0 => ⟨fun _ => h.1.2.resolve_left (fun hn => hn h0), fun _ hk => absurd hk (Nat.lt_irrefl 0)⟩⟩
  | y :: l, d, p, k + 1, x, h, hx => by
    simp only [sndL, Bool.and_eq_true] at h
    simp only [List.getElem?_cons_succ] at hx
    obtain ⟨h1, h2⟩ := snd_at h.2 hx
    refine ⟨h1, fun h0 => ⟨fun hk => by omega, fun z _ hz => ?_⟩⟩
    cases k with
    | zero =>
      simp only [Nat.zero_add, Nat.sub_self, List.getElem?_cons_zero, Option.some.injEq] at hz
      subst hz
      exact (h2 h0).1 rfl
    | succ k => exact (h2 h0).2 z (by omega) (by simpa using hz)
/-- what a sound span has -/
theorem snd_cases {x : Sp} {d : Nat} (h : snd1 x d = true) :
    (x.kind = 0 ∧ x.text ≠ [] ∧ x.kids = [] ∧ x.sub = [] ∧ x.see = []) ∨ ((x.kind = 3 ∨ x.kind = 4) ∧ x.kids = [] ∧ x.sub = [] ∧ x.see = []) ∨ (x.kind = 5 ∧ x.kids = []) ∨
    ((x.kind = 1 ∨ x.kind = 2) ∧ x.text = [] ∧ d ≠ 16 ∧ sndL x.kids (d + 1) 1 = true ∧ x.kids ≠ [] ∧ x.sub = [] ∧ x.see = []) ∨ (x.kind = 6 ∧ x.text = [] ∧ d ≠ 16 ∧ sndL x.kids (d + 1) 1 = true ∧ x.sub = [] ∧ x.see = []) := by
  obtain ⟨k, t, u, v, kids⟩ := x
  simp only [snd1, Bool.and_eq_true] at h
  obtain ⟨⟨⟨⟨h1, h2⟩, h3⟩, h4⟩, h5⟩ := h
  have hk : k ≤ 6 := by simpa using h1
  have hq : k = 0 ∨ k = 1 ∨ k = 2 ∨ k = 3 ∨ k = 4 ∨ k = 5 ∨ k = 6 := by omega
  rcases hq with rfl | rfl | rfl | rfl | rfl | rfl | rfl <;> simp at h2 h3 h4 h5 ⊢ <;> simp [*]
end Go.Bd
namespace Go.Proofs.YtgiiglcgfbnaoaaGreatDoor
open Go.RowKit Go.Bd
def ManyOk (N : Nat) : Prop := ∀ (l : List Sp), manyL l ≤ N → manyL l ≤ 1000000000 → ∀ (v : Value) (w : World) (B : Nat), Forest w (· < B) v l → B ≤ w.heap.size →
    Calls Tryz.prog 23 #[v] w fun e w' => e = .returned (.int .i64 (manyL l : Int)) ∧ Below B w w'
theorem manyL_take {l : List Sp} {k : Nat} {x : Sp} (h : l[k]? = some x) : manyL (l.take (k + 1)) = manyL (l.take k) + 1 + manyL x.kids := by
  rw [List.take_add_one, h, manyL_app]
  obtain ⟨q, t, u, v, ks⟩ := x
  simp [manyL, many1]; omega
set_option maxRecDepth 100000 in
set_option maxHeartbeats 2000000 in
theorem many_step {N : Nat} (ih : ∀ M, M < N → ManyOk M) : ManyOk N := by
  intro l hN hm v w B hF hB
  obtain ⟨A, c, rfl, hc⟩ := hF.len
  have hlm := many_len l
  have HF := Lib.hid hF
  have HIH := Lib.hid ih
  clear hF ih
  obtain ⟨n, hn⟩ : ∃ n, l.length = n := ⟨_, rfl⟩
  obtain ⟨mm, hmm⟩ : ∃ mm, manyL l = mm := ⟨_, rfl⟩
  have HN := Lib.hid hn
  have HMM := Lib.hid hmm
  simp only [hn, hmm] at hc hlm hN hm HF ⊢
  clear hn hmm
  go_enter Tryz.func23, Tryz.ntmps23
  go_wp2
  go_loopg [3, 4] n (fun q vn vi wr => ∃ k a : Nat, k + q = n ∧ vi = .int .i64 (k : Int) ∧ vn = .int .i64 (a : Int) ∧ a ≤ mm ∧ Hid (a + k = n + manyL (l.take k) ∧ Below B w wr))
  case atStart => exact ⟨0, n, by omega, rfl, rfl, hlm, by simp [manyL], Below.refl _ _⟩
  case round =>
    obtain ⟨k, a, hk, rfl, rfl, ham, HR⟩ := hrel
    by_cases hlt : k < n
    · obtain ⟨x, hx⟩ : ∃ x, l[k]? = some x := ⟨_, List.getElem?_eq_getElem (by rw [HN.out]; exact hlt)⟩
      obtain ⟨b1, off, kA, kc, rfl, hb1, hkF, p0, p1, p2, p3, p4⟩ := HF.out.at hx
      have hbl := HR.out.2
      replace p4 := (hbl.cell (p := ⟨b1, off + k * 5 + 4, none⟩) hb1).trans p4
      have hgt := many_get hx
      rw [HMM.out] at hgt
      have hrb := hbl.size
      have htk := manyL_take hx
      have hbd : manyL (l.take (k + 1)) + n ≤ mm + (k + 1) := by
        have e := manyL_app (l.take (k + 1)) (l.drop (k + 1))
        rw [List.take_append_drop, HMM.out] at e
        have h2 := many_len (l.drop (k + 1))
        rw [List.length_drop, HN.out] at h2
        omega
      have ci := HIH.out (manyL x.kids) (by omega) x.kids (Nat.le_refl _) (by omega) _ wr B (hkF.under hbl (fun _ h => h)) (by omega)
      have hsum : a + manyL x.kids + (k + 1) = n + manyL (l.take (k + 1)) := by have := HR.out.1; omega
      have HSM := Lib.hid hsum
      have ham2 : a + manyL x.kids ≤ mm := by omega
      generalize manyL x.kids = mk at ci ham2 HSM
      clear hx hkF hbl p0 p1 p2 p3 htk hbd hgt hsum
      go_wp2_with fail
      refine ci.mono ?_
      clear ci
      rintro e w2 ⟨rfl, hb2⟩
      have HB2 := Lib.hid (HR.out.2.trans hb2)
      clear hb2
      go_wp2
      go_roundg (gk - 1)
      case measure => omega
      case rel => exact ⟨k + 1, a + mk, by omega, by go_num, by go_num, ham2, HSM.out, HB2.out⟩
    · obtain rfl : k = n := by omega
      have ha : a = mm := by
        have h1 := HR.out.1
        rw [List.take_of_length_le (by rw [HN.out]; exact Nat.le_refl _), HMM.out] at h1
        omega
      subst ha
      go_wp2
      go_ret
      exact ⟨rfl, HR.out.2⟩
theorem many_any (N : Nat) : ManyOk N := by
  induction N using Nat.strongRecOn with
  | _ N ih => exact many_step ih
def faultV (f : Nat) : Value := .int .i64 (f : Int)
theorem faults_rd {w : World} {B : Nat} {v : Value} {l : List Nat} (h : FaultRow w B v l) : Rd w w.heap.size v (l.map faultV) := own_rd h
theorem faults_le {w : World} {B : Nat} {v : Value} {l : List Nat} (h : FaultRow w B v l) : l.length ≤ 9223372036854775807 := by
  rcases h.2 with ⟨_, h0⟩ | ⟨g, cap, cur, hv, hb, hh, hc, hm, hs, _⟩
  · omega
  · unfold maxLen at hm; omega
set_option maxRecDepth 100000 in
/-- faults that are the same -/
theorem sameFaults_any (l : List Nat) (hL : l.length ≤ 9223372036854775807) (a b : Value) (w : World) (B : Nat) (ha : Rd w B a (l.map faultV)) (hb : Rd w B b (l.map faultV)) :
    Calls Tryz.prog 24 #[a, b] w fun e w' => e = .returned (.bool true) ∧ Below w.heap.size w w' := by
  obtain ⟨A, ca, rfl, hca, fa⟩ := ha.form
  obtain ⟨C, cb, rfl, hcb, fb⟩ := hb.form
  rw [List.length_map] at hca hcb
  rw [List.length_map]
  have FA : Hid (∀ (j : Nat) x, l[j]? = some x → ∃ b off, A = some ⟨b, off, none⟩ ∧ b < B ∧ w.cell? ⟨b, off + j, none⟩ = some (.int .i64 (x : Int))) := fun j x hj => fa j _ (by rw [List.getElem?_map, hj]; rfl)
  have FB : Hid (∀ (j : Nat) x, l[j]? = some x → ∃ b off, C = some ⟨b, off, none⟩ ∧ b < B ∧ w.cell? ⟨b, off + j, none⟩ = some (.int .i64 (x : Int))) := fun j x hj => fb j _ (by rw [List.getElem?_map, hj]; rfl)
  clear ha hb fa fb
  generalize hn : l.length = n at hca hcb hL ⊢
  have HN := Lib.hid hn
  clear hn
  go_enter Tryz.func24, Tryz.ntmps24
  go_wp2
  go_loopg [5] n (fun r i wr => ∃ k : Nat, k + r = n ∧ i = .int .i64 k ∧ Below w.heap.size w wr ∧ (∀ p : Addr, wr.cell? p = w.cell? p))
  case atStart => exact ⟨0, by omega, rfl, Below.refl _ _, fun _ => rfl⟩
  case round =>
    obtain ⟨k, hk, rfl, hbl, hcell⟩ := hrel
    by_cases hlt : k < n
    · obtain ⟨s, hs⟩ : ∃ s, l[k]? = some s := ⟨_, List.getElem?_eq_getElem (by rw [HN.out]; exact hlt)⟩
      obtain ⟨b1, o1, rfl, _, c1⟩ := FA.out k s hs
      obtain ⟨b2, o2, rfl, _, c2⟩ := FB.out k s hs
      replace c1 := (hcell _).trans c1
      replace c2 := (hcell _).trans c2
      have HC := Lib.hid hcell
      clear hcell hs
      go_wp2
      go_quiet (fail)
      go_wp2
      have hb2 := below_drewN hbl nq
      go_roundg (gk - 1)
      case measure => omega
      case rel => exact ⟨k + 1, by omega, by go_num, hb2, fun p => HC.out p⟩
    · have hk' : n ≤ k := by omega
      have HC := Lib.hid hcell
      clear hcell
      go_wp2
      go_ret
      exact ⟨rfl, hbl⟩
end Go.Proofs.YtgiiglcgfbnaoaaGreatDoor
namespace Go.Proofs.YtgiiglcgfbnaoaaGreatDoor
open Go.RowKit Go.Bd
def noAcc (c : UInt8) : Bool := !(c == 96 || c == 92)
theorem noAcc_or (c : UInt8) : c = 96 ∨ c = 92 ∨ noAcc c = true := by
  unfold noAcc
  by_cases h1 : c = 96; · exact .inl h1
  by_cases h2 : c = 92; · exact .inr (.inl h2)
  refine .inr (.inr ?_)
  simp [h1, h2]
theorem noAcc_mem {l : Bs} (h : l.all noAcc = true) : (96 : UInt8) ∉ l := fun hm => by
  have := List.all_eq_true.1 h _ hm
  simp [noAcc] at this
theorem cat_list (a b : ByteArray) : (a ++ b).data.toList = a.data.toList ++ b.data.toList := by simp
theorem sizeL (b : ByteArray) : b.size = b.data.toList.length := by rw [Array.length_toList]; rfl
set_option maxRecDepth 100000 in
set_option maxHeartbeats 4000000 in
theorem spansCode_true (s : ByteArray) (m : Int) (w : World) (hm : w.cell? ⟨0, 0, none⟩ = some (.int .i64 m)) (hs : s.size ≤ 140737488355328) :
    Calls Tryz.prog 9 #[.string s] w fun e w' => e = .returned (.bool true) ∧ Below w.heap.size w w' := by
  have hB : 0 < w.heap.size := World.block_lt_of_cell? w _ hm
  have HM := Lib.hid hm
  have ca := alive_any w m hm
  clear hm
  by_cases hbig : s.size ≤ 2000
  · go_enter Tryz.func9, Tryz.ntmps9
    go_wp2_with fail
    refine ca.mono ?_
    clear ca
    rintro e w1 ⟨rfl, hb1⟩
    have HB1 := Lib.hid hb1
    have hs1 := hb1.size
    clear hb1
    go_wp2
    go_loopg [3] s.size (fun q i wr => wr = w1 ∧ ∃ k : Nat, k + q = s.size ∧ i = .int .i64 (k : Int) ∧ Hid ((s.data.toList.take k).all noAcc = true))
    case atStart => exact ⟨rfl, 0, by omega, rfl, (rfl : (s.data.toList.take 0).all noAcc = true)⟩
    case round =>
      obtain ⟨rfl, k, hk, rfl, HP⟩ := hrel
      by_cases hlt : k < s.size
      · rcases noAcc_or s[k] with h | h | h
        case inr.inr =>
          have HP2 := Lib.hid (all_snoc hlt HP.out h)
          have n1 : s[k] ≠ 96 := fun e => by rw [e] at h; simp [noAcc] at h
          have n2 : s[k] ≠ 92 := fun e => by rw [e] at h; simp [noAcc] at h
          have q1 := neB (d := 96) (k := 96) rfl n1
          have q2 := neB (d := 92) (k := 92) rfl n2
          clear h n1 n2
          go_wp2
          go_roundg (gk - 1)
          case measure => omega
          case rel => exact ⟨rfl, k + 1, by omega, by go_num, HP2.out⟩
        case inl =>
          have q0 := isB (d := 96) (k := 96) rfl h
          clear h
          go_wp2
          go_ret
          exact ⟨rfl, HB1.out⟩
        case inr.inl =>
          have q0 := neB (c := s[k]) (d := 96) (k := 96) rfl (by rw [h]; decide)
          have q1 := isB (d := 92) (k := 92) rfl h
          clear h
          go_wp2
          go_ret
          exact ⟨rfl, HB1.out⟩
      · obtain rfl : k = s.size := by omega
        have hpl : (96 : UInt8) ∉ s.data.toList := by
          have h := HP.out
          rw [List.take_of_length_le (by simp)] at h
          exact noAcc_mem h
        obtain ⟨lf, hlf⟩ := faults_open hpl
        obtain ⟨hcf, hcs⟩ := of_end (end_code hpl)
        have hc1 := (HB1.out.cell (p := ⟨0, 0, none⟩) hB).trans HM.out
        have HC1 := Lib.hid hc1
        have HPL := Lib.hid hpl
        have HLF := Lib.hid hlf
        have HCF := Lib.hid hcf
        have HCS := Lib.hid hcs
        clear hpl hlf hcf hcs hc1 HP
        obtain ⟨o, ho⟩ : ∃ o : ByteArray, (⟨#[96]⟩ : ByteArray) ++ s = o := ⟨_, rfl⟩
        have hol : o.data.toList = 96 :: s.data.toList := by rw [← ho, cat_list]; rfl
        have hos : o.size = s.size + 1 := by rw [sizeL, hol, List.length_cons, ← sizeL]
        have cp := parseSpans_any o wr (by omega) m HC1.out
        rw [hol, HLF.out] at cp
        have HOL := Lib.hid hol
        have HO := Lib.hid ho
        clear hol
        go_wp2_with fail
        refine cp.mono ?_
        clear cp
        rintro e w2 ⟨sv, fv, rfl, hb2, hf2, hr2⟩
        have hs2 := hb2.size
        obtain ⟨Af, cf, rfl, hcf, fa⟩ := (faults_rd hr2).form
        obtain ⟨b1, o1, rfl, hb1, c1⟩ := fa 0 (faultV 7) rfl
        obtain ⟨A2, c2, rfl, _⟩ := hf2.len
        have c1' : w2.cell? ⟨b1, o1, none⟩ = some (.int .i64 7) := c1
        have HB2 := Lib.hid (HB1.out.trans (hb2.mono hs1))
        obtain ⟨o2, ho2⟩ : ∃ o2 : ByteArray, o ++ (⟨#[96]⟩ : ByteArray) = o2 := ⟨_, rfl⟩
        have HO2 := Lib.hid ho2
        have ho2l : o2.data.toList = 96 :: (s.data.toList ++ [96]) := by rw [← ho2, cat_list, HOL.out]; rfl
        have ho2s : o2.size = s.size + 2 := by rw [sizeL, ho2l, List.length_cons, List.length_append, ← sizeL]; rfl
        have hC : Forest (w2.alloc (.cells #[.int .u8 3, .string s, .string ⟨#[]⟩, .string ⟨#[]⟩, .slice none 0 0] 33)) (· < (w2.alloc (.cells #[.int .u8 3, .string s, .string ⟨#[]⟩, .string ⟨#[]⟩, .slice none 0 0] 33)).heap.size) (.slice (some ⟨w2.heap.size, 0, none⟩) 1 1) [⟨3, s.data.toList, [], [], []⟩] := by
          have h := forest_one (x := ⟨3, s.data.toList, [], [], []⟩) (kv := .slice none 0 0) (w := w2.alloc (.cells #[.int .u8 3, .string s, .string ⟨#[]⟩, .string ⟨#[]⟩, .slice none 0 0] 33)) (F := (· < (w2.alloc (.cells #[.int .u8 3, .string s, .string ⟨#[]⟩, .string ⟨#[]⟩, .slice none 0 0] 33)).heap.size)) (g := w2.heap.size) (t := 33)
            (by have h := Holds.new w2 33 #[.int .u8 3, .string s, .string ⟨#[]⟩, .string ⟨#[]⟩, .slice none 0 0]
                have e : strV s.data.toList = .string s := by rw [strV, mk_list]
                simp only [spCells, e]
                exact h) (by simp) (Forest.nil _ _)
          exact h
        have ci := is_any o2 _ (by omega) (by rw [ho2l]; exact HCF.out) (by rw [ho2l]; exact HCS.out) _ _ m hC (cellAlloc _ ((hb2.cell (p := ⟨0, 0, none⟩) (show 0 < wr.heap.size by omega)).trans HC1.out))
        have hbw : b1 < w2.heap.size := hb1
        clear hb2 hf2 hr2 fa c1 hC
        rw [List.length_map, List.length_cons] at hcf ⊢
        obtain ⟨nl, hnl⟩ : ∃ nl, lf.length = nl := ⟨_, rfl⟩
        rw [hnl] at hcf ⊢
        clear hnl
        go_wp2_with fail
        refine ci.mono ?_
        clear ci
        rintro e w3 ⟨rfl, hb3⟩
        have HB3 := Lib.hid ((HB2.out.alloc (by omega) _).trans (hb3.mono (by simp; omega)))
        have c3 : w3.cell? ⟨b1, o1, none⟩ = some (.int .i64 7) := (hb3.cell (p := ⟨b1, o1, none⟩) (by simp; omega)).trans (cellAlloc _ c1')
        clear hb3
        go_wp2
        go_ret
        exact ⟨rfl, HB3.out⟩
  · have hb2 : (2000 : Int) < (s.size : Int) := by omega
    go_enter Tryz.func9, Tryz.ntmps9
    go_wp2_with fail
    refine ca.mono ?_
    clear ca
    rintro e w1 ⟨rfl, hb1⟩
    have HB1 := Lib.hid hb1
    have ca2 := alive_any w1 m ((hb1.cell (p := ⟨0, 0, none⟩) hB).trans HM.out)
    have hs1 := hb1.size
    clear hb1
    go_wp2_with fail
    refine ca2.mono ?_
    clear ca2
    rintro e w2 ⟨rfl, hb2'⟩
    have HB2 := Lib.hid (HB1.out.trans (hb2'.mono hs1))
    clear hb2'
    go_wp2
    go_ret
    exact ⟨rfl, HB2.out⟩
end Go.Proofs.YtgiiglcgfbnaoaaGreatDoor
namespace Go.Proofs.YtgiiglcgfbnaoaaGreatDoor.spansCode
open Go.ChangeShapes Go.WideShapes Go.ChangeAt Go.RowKit Go.Bd Go.WideMaps Go.WideElems
open Go.ChangeMaps (open_string shut_string)
set_option maxRecDepth 100000 in
theorem contract (H : Type) (enc : TypeId × Value → H) (W : World) (base : Nat) (args : Array Value) (ds gs : List (DataW H)) (before : List MemPlace)
    (hval : ∀ (j : Nat) t v, Tryz.f9.params[j]? = some t → args[j]? = some v → Value.okWide Tryz.prog W .any base t v)
    (hW : DataW.Whole enc Tryz.prog Tryz.f9.params.toList Rows.spansCodeSpec.vars false W args.toList ds gs before) (hsh : W.ShapedOpen Tryz.prog)
    (hsz : (DataW.weightsEach Tryz.prog (Tryz.f9.params.toList ++ (OpenSpec.ofChange Rows.spansCodeSpec).bare.plain.varTypes Tryz.prog) (ds ++ gs)).all (· ≤ reachBytes) = true) :
    Calls Tryz.prog 9 args W fun e W' => ∃ v, e = .returned v ∧ Rows.spansCodeSpec.post enc Tryz.prog Tryz.f9 false true false false W args v W' := by
  obtain ⟨m, hm⟩ := maxLen_cell W hsh
  have hW' := hW
  obtain ⟨p, q, hA0, hV, rfl, hfz, hnd⟩ := hW
  have hA : DataW.TrodAll enc Tryz.prog W 0 (fun _ => true) true Tryz.f9.params.toList args.toList ds p := hA0
  rw [Tryz.params9] at hA hval hsz
  obtain ⟨v0, vs0, d0, ds0, p0, q0, hargs, rfl, rfl, h0, r0⟩ := trodAll_cons hA
  obtain ⟨rfl, rfl, rfl⟩ := trodAll_nil r0
  obtain rfl : args = #[v0] := by cases args; simp_all
  obtain ⟨rfl, rfl⟩ := trodVars_none hV
  obtain ⟨s0, rfl, rfl, rfl, hs0⟩ := open_string Tryz.underlying9 (hval 0 9 v0 rfl rfl) h0
  have b0 : s0.size ≤ 140737488355328 := by
    have := sized_string hsz (j := 0) (t := 9) (bytes := s0.data.toList) rfl rfl
    rw [size_list]; unfold reachBytes at this; omega
  refine (spansCode_true s0 m W hm b0).mono fun e W' ⟨he, hg⟩ => ?_
  subst he
  exact law_post hW' hg laidOut (by rw [Tryz.params9]; intro t ht; simp at ht; subst ht; exact ⟨by kernel_rfl, of_decide_eq_true (by kernel_rfl)⟩) rfl rfl (by kernel_rfl) Tryz.underlying4
theorem laid_met (os : Os) : laidMet Tryz.prog Rows.spansCodeRow.laid ((laidWorld os).forCall (fun _ _ => 0) ⟨#[], #[.string ⟨#[]⟩], []⟩).memory :=
  laidMet_of_run' 8 (by kernel_rfl) (by kernel_rfl)
theorem reads (os : Os) {H : Type} (enc : TypeId × Value → H) : ∃ places, DataW.whole enc Tryz.prog ((laidWorld os).forCall (fun _ _ => 0) ⟨#[], #[.string ⟨#[]⟩], []⟩).memory Tryz.f9.params.toList Rows.spansCodeSpec.vars false (#[.string ⟨#[]⟩] : Array Value).toList 8 = some ([.lit (.string [])], [], places) :=
  ⟨[], by kernel_rfl⟩
set_option maxRecDepth 100000 in
theorem lifted (os : Os) (started : os.Started) (H : Type) (enc : TypeId × Value → H) (F : Stop.Interp) :
    ReturnsInHanded {} Tryz.checked os 9 .any ((OpenSpec.ofChange Rows.spansCodeSpec).preRow enc Tryz.prog Tryz.f9 Rows.spansCodeRow.domain false Rows.spansCodeRow.laid) (((OpenSpec.ofChange Rows.spansCodeSpec).at F).post enc Tryz.prog Tryz.f9 false true false false) := by
  obtain ⟨places, hx⟩ := reads os enc
  refine returnsInHanded_of_row (C := Tryz.checked) (s := OpenSpec.ofChange Rows.spansCodeSpec) own started (by kernel_rfl) Tryz.func9
    (witness_row_at (enc := enc) (C := Tryz.checked) false (laidWorld os) #[.string ⟨#[]⟩] rfl (by kernel_rfl) (by kernel_rfl) (by kernel_rfl)
      (OpenSpec.preRow_of_cond 8 hx (by kernel_rfl) (fun k hk => by cases hk) (by kernel_rfl) (laid_met os))) ?_
  intro W base args ds gs before hval hW _ _ hsz _ hsh _
  exact contract H enc W base args ds gs before hval hW hsh hsz
theorem said : Rows.SpansCodeSaid :=
  OpenClaim.holds_of_cond 9 Tryz.f9 rfl rfl rfl rfl rfl rfl rfl ⟨rfl, rfl, rfl, rfl, rfl⟩ rfl rfl rfl rfl rfl (by kernel_rfl) Tryz.func9 (by kernel_rfl)
    (of_decide_eq_true (by kernel_rfl)) (by unfold Func.isWrapper; first | (rw [if_pos (by decide +kernel)]; kernel_rfl) | (rw [if_neg (by decide +kernel)]; exact ⟨rfl, rfl⟩))
    (fun os started H enc _ F => by rw [OpenClaim.pre_eq_preRow]; exact lifted os started H enc F)
theorem plain (f : FuncId) (fn : Func) (hf : Tryz.pinned.checked.prog.funcNamed Tryz.f9.name = some f) (hfn : Tryz.pinned.checked.prog.funcs[f]? = some fn) :
    false = Tryz.pinned.checked.prog.looks [] ∧ ∀ (j : Nat) t, fn.params[j]? = some t → Tryz.pinned.checked.prog.wantsStandIn t = false := by
  obtain rfl : f = 9 := Option.some.inj ((show Tryz.prog.funcNamed Tryz.f9.name = some 9 by kernel_rfl).symm.trans hf) |>.symm
  obtain rfl : fn = Tryz.f9 := (Option.some.inj (Tryz.func9.symm.trans hfn)).symm
  refine ⟨by kernel_rfl, fun j t ht => ?_⟩
  rw [Tryz.params9] at ht
  obtain rfl : t = 9 := by simpa using Array.mem_of_getElem? ht
  exact (show Tryz.prog.wantsStandIn 9 = false by kernel_rfl)
theorem card : Rows.SpansCodeCardSaid :=
  Claim7.holds_tied_plain_at .later [] _ _ _ _ said (fun _ h => by cases h) (by kernel_rfl) (fun _ h => by cases h) spansCode_row_tie rfl ⟨rfl, rfl⟩ (by kernel_rfl) rfl plain (by kernel_rfl)
end Go.Proofs.YtgiiglcgfbnaoaaGreatDoor.spansCode
