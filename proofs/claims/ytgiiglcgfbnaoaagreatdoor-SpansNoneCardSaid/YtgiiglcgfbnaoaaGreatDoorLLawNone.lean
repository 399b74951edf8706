/-
  The law SpansNone: for every input it answers true, and the input reads as it did: the row, and its card. Its conditions: those of the given row alone.
-/
import Derived.Test.YtgiiglcgfbnaoaaGreatDoorK4
set_option linter.unusedSimpArgs false
set_option linter.unusedVariables false
namespace Go.Proofs.YtgiiglcgfbnaoaaGreatDoor
open Go.RowKit Go.Bd
theorem plain_or_sign (c : UInt8) : c = 42 ∨ c = 95 ∨ c = 96 ∨ c = 60 ∨ c = 40 ∨ c = 94 ∨ c = 93 ∨ c = 92 ∨ plainC c = true := by
  unfold plainC
  by_cases h1 : c = 42; · exact .inl h1
  by_cases h2 : c = 95; · exact .inr (.inl h2)
  by_cases h3 : c = 96; · exact .inr (.inr (.inl h3))
  by_cases h4 : c = 60; · exact .inr (.inr (.inr (.inl h4)))
  by_cases h5 : c = 40; · exact .inr (.inr (.inr (.inr (.inl h5))))
  by_cases h6 : c = 94; · exact .inr (.inr (.inr (.inr (.inr (.inl h6)))))
  by_cases h7 : c = 93; · exact .inr (.inr (.inr (.inr (.inr (.inr (.inl h7))))))
  by_cases h8 : c = 92; · exact .inr (.inr (.inr (.inr (.inr (.inr (.inr (.inl h8)))))))
  refine .inr (.inr (.inr (.inr (.inr (.inr (.inr (.inr ?_)))))))
  simp [h1, h2, h3, h4, h5, h6, h7, h8]
theorem all_snoc {s : ByteArray} {k : Nat} (hk : k < s.size) {p : UInt8 → Bool} (h : (s.data.toList.take k).all p = true) (hp : p s[k] = true) : (s.data.toList.take (k + 1)).all p = true := by
  have hl : k < s.data.toList.length := by simpa using hk
  rw [List.take_add_one, List.all_append, h, List.getElem?_eq_getElem hl]
  have e : s[k] = s.data.toList[k] := rfl
  rw [e] at hp
  simp only [Option.toList_some, List.all_cons, List.all_nil, Bool.and_true, Bool.true_and]
  exact hp
theorem mk_list (s : ByteArray) : (⟨s.data.toList.toArray⟩ : ByteArray) = s := by simp
set_option maxRecDepth 100000 in
set_option maxHeartbeats 4000000 in
theorem spansNone_true (s : ByteArray) (m : Int) (w : World) (hm : w.cell? ⟨0, 0, none⟩ = some (.int .i64 m)) (hs : s.size ≤ 140737488355328) :
    Calls Tryz.prog 5 #[.string s] w fun e w' => e = .returned (.bool true) ∧ Below w.heap.size w w' := by
  have hB : 0 < w.heap.size := World.block_lt_of_cell? w _ hm
  have HM := Lib.hid hm
  have ca := alive_any w m hm
  clear hm
  by_cases hbig : s.size ≤ 20000
  · rcases emptyB s with ⟨z1, z2⟩ | ⟨z1, z2⟩
    all_goals
      go_enter Tryz.func5, Tryz.ntmps5
      go_wp2_with fail
      refine ca.mono ?_
      clear ca
      rintro e w1 ⟨rfl, hb1⟩
      have HB1 := Lib.hid hb1
      have hs1 := hb1.size
      clear hb1
      go_wp2
      go_loopg [3] s.size (fun q i wr => wr = w1 ∧ ∃ k : Nat, k + q = s.size ∧ i = .int .i64 (k : Int) ∧ Hid ((s.data.toList.take k).all plainC = true))
      case atStart => exact ⟨rfl, 0, by omega, rfl, (rfl : (s.data.toList.take 0).all plainC = true)⟩
      case round =>
        obtain ⟨rfl, k, hk, rfl, HP⟩ := hrel
        by_cases hlt : k < s.size
        · rcases plain_or_sign s[k] with h | h | h | h | h | h | h | h | h
          case inr.inr.inr.inr.inr.inr.inr.inr =>
            have HP2 := Lib.hid (all_snoc hlt HP.out h)
            obtain ⟨n1, n2, n3, n4, n5, n6, n7, n8⟩ := plain_ne h
            have q1 := neB (d := 42) (k := 42) rfl n1
            have q2 := neB (d := 95) (k := 95) rfl n2
            have q3 := neB (d := 60) (k := 60) rfl n3
            have q4 := neB (d := 40) (k := 40) rfl n4
            have q5 := neB (d := 94) (k := 94) rfl n5
            have q6 := neB (d := 93) (k := 93) rfl n6
            have q7 := neB (d := 92) (k := 92) rfl n7
            have q8 := neB (d := 96) (k := 96) rfl n8
            clear h n1 n2 n3 n4 n5 n6 n7 n8
            go_wp2
            go_roundg (gk - 1)
            case measure => omega
            case rel => exact ⟨rfl, k + 1, by omega, by go_num, HP2.out⟩
          case inl =>
            have q0 := isB (d := 42) (k := 42) rfl h
            clear h
            go_wp2
            go_ret
            exact ⟨rfl, HB1.out⟩
          case inr.inl =>
            have q0 := neB (c := s[k]) (d := 42) (k := 42) rfl (by rw [h]; decide)
            have q1 := isB (d := 95) (k := 95) rfl h
            clear h
            go_wp2
            go_ret
            exact ⟨rfl, HB1.out⟩
          case inr.inr.inl =>
            have q0 := neB (c := s[k]) (d := 42) (k := 42) rfl (by rw [h]; decide)
            have q1 := neB (c := s[k]) (d := 95) (k := 95) rfl (by rw [h]; decide)
            have q2 := isB (d := 96) (k := 96) rfl h
            clear h
            go_wp2
            go_ret
            exact ⟨rfl, HB1.out⟩
          case inr.inr.inr.inl =>
            have q0 := neB (c := s[k]) (d := 42) (k := 42) rfl (by rw [h]; decide)
            have q1 := neB (c := s[k]) (d := 95) (k := 95) rfl (by rw [h]; decide)
            have q2 := neB (c := s[k]) (d := 96) (k := 96) rfl (by rw [h]; decide)
            have q3 := isB (d := 60) (k := 60) rfl h
            clear h
            go_wp2
            go_ret
            exact ⟨rfl, HB1.out⟩
          case inr.inr.inr.inr.inl =>
            have q0 := neB (c := s[k]) (d := 42) (k := 42) rfl (by rw [h]; decide)
            have q1 := neB (c := s[k]) (d := 95) (k := 95) rfl (by rw [h]; decide)
            have q2 := neB (c := s[k]) (d := 96) (k := 96) rfl (by rw [h]; decide)
            have q3 := neB (c := s[k]) (d := 60) (k := 60) rfl (by rw [h]; decide)
            have q4 := isB (d := 40) (k := 40) rfl h
            clear h
            go_wp2
            go_ret
            exact ⟨rfl, HB1.out⟩
          case inr.inr.inr.inr.inr.inl =>
            have q0 := neB (c := s[k]) (d := 42) (k := 42) rfl (by rw [h]; decide)
            have q1 := neB (c := s[k]) (d := 95) (k := 95) rfl (by rw [h]; decide)
            have q2 := neB (c := s[k]) (d := 96) (k := 96) rfl (by rw [h]; decide)
            have q3 := neB (c := s[k]) (d := 60) (k := 60) rfl (by rw [h]; decide)
            have q4 := neB (c := s[k]) (d := 40) (k := 40) rfl (by rw [h]; decide)
            have q5 := isB (d := 94) (k := 94) rfl h
            clear h
            go_wp2
            go_ret
            exact ⟨rfl, HB1.out⟩
          case inr.inr.inr.inr.inr.inr.inl =>
            have q0 := neB (c := s[k]) (d := 42) (k := 42) rfl (by rw [h]; decide)
            have q1 := neB (c := s[k]) (d := 95) (k := 95) rfl (by rw [h]; decide)
            have q2 := neB (c := s[k]) (d := 96) (k := 96) rfl (by rw [h]; decide)
            have q3 := neB (c := s[k]) (d := 60) (k := 60) rfl (by rw [h]; decide)
            have q4 := neB (c := s[k]) (d := 40) (k := 40) rfl (by rw [h]; decide)
            have q5 := neB (c := s[k]) (d := 94) (k := 94) rfl (by rw [h]; decide)
            have q6 := isB (d := 93) (k := 93) rfl h
            clear h
            go_wp2
            go_ret
            exact ⟨rfl, HB1.out⟩
          case inr.inr.inr.inr.inr.inr.inr.inl =>
            have q0 := neB (c := s[k]) (d := 42) (k := 42) rfl (by rw [h]; decide)
            have q1 := neB (c := s[k]) (d := 95) (k := 95) rfl (by rw [h]; decide)
            have q2 := neB (c := s[k]) (d := 96) (k := 96) rfl (by rw [h]; decide)
            have q3 := neB (c := s[k]) (d := 60) (k := 60) rfl (by rw [h]; decide)
            have q4 := neB (c := s[k]) (d := 40) (k := 40) rfl (by rw [h]; decide)
            have q5 := neB (c := s[k]) (d := 94) (k := 94) rfl (by rw [h]; decide)
            have q6 := neB (c := s[k]) (d := 93) (k := 93) rfl (by rw [h]; decide)
            have q7 := isB (d := 92) (k := 92) rfl h
            clear h
            go_wp2
            go_ret
            exact ⟨rfl, HB1.out⟩
        · obtain rfl : k = s.size := by omega
          have hpl : s.data.toList.all plainC = true := by
            have h := HP.out
            rw [List.take_of_length_le (by simp)] at h
            exact h
          obtain ⟨he, hf⟩ := spans_plain hpl
          have hf2 : faultsOf s.data.toList = [] := (faultsOf_nil _).2 hf
          have hc1 := (HB1.out.cell (p := ⟨0, 0, none⟩) hB).trans HM.out
          first
          | (rw [ByteArray.toList_eq] at z1
             rw [if_pos z1] at he
             have ci := is_any s [] (by omega) hf2 he (.slice none 0 0) wr m (Forest.nil _ _) hc1
             clear he hf hf2 hpl hc1 HP
             rw [← ByteArray.toList_eq] at z1
             go_wp2_with fail
             refine ci.mono ?_
             clear ci
             rintro e w2 ⟨rfl, hb2⟩
             have HB2 := Lib.hid (HB1.out.trans (hb2.mono hs1))
             clear hb2
             go_wp2
             go_ret
             exact ⟨rfl, HB2.out⟩)
          | (have z3 : s.data.toList ≠ [] := by rw [← ByteArray.toList_eq]; exact z1
             rw [if_neg z3] at he
             have cp := parseSpans_any s wr (by omega) m hc1
             have HE := Lib.hid he
             have HF2 := Lib.hid hf2
             have HC1 := Lib.hid hc1
             clear he hf hf2 hpl hc1 HP z3
             go_wp2_with fail
             refine cp.mono ?_
             clear cp
             rintro e w2 ⟨sv, fv, rfl, hb2, hf2, hr2⟩
             obtain ⟨Af, cf, rfl, _⟩ := own_slice2 hr2
             have hs2 := hb2.size
             rw [HE.out] at hf2
             obtain ⟨A2, c2, rfl, _⟩ := hf2.len
             have HFO := Lib.hid hf2
             have HB2 := Lib.hid (HB1.out.trans (hb2.mono hs1))
             clear hb2 hf2 hr2
             go_wp2_with fail
             refine (text_any s w2).mono ?_
             rintro e w3 ⟨rfl, hb3⟩
             have hs3 := hb3.size
             have hB3 : Below w.heap.size w w3 := HB2.out.trans (hb3.mono (by omega))
             have hfo3 : Forest w3 (· < w3.heap.size) (.slice A2 [txt s.data.toList].length c2) [txt s.data.toList] := (HFO.out.under hb3 (fun _ h => h)).keep (fun b hb => by omega) (fun _ _ _ h => h)
             have hft := forest_new_txt w3 s.data.toList
             rw [mk_list] at hft
             have ci := is_any s [txt s.data.toList] (by omega) HF2.out HE.out _ _ m hft ((cellAlloc _ ((hB3.cell (p := ⟨0, 0, none⟩) hB).trans HM.out)))
             have HB3 := Lib.hid hB3
             have HFO3 := Lib.hid hfo3
             clear hb3 hB3 hfo3 hft
             go_wp2_with fail
             refine ci.mono ?_
             clear ci
             rintro e w4 ⟨rfl, hb4⟩
             have hs4 := hb4.size
             simp only [World.size_alloc] at hs4
             have hfo4 : Forest w4 (· < w4.heap.size) (.slice A2 [txt s.data.toList].length c2) [txt s.data.toList] := ((HFO3.out.under ((Below.refl w3.heap.size w3).alloc (Nat.le_refl _) _) (fun _ h => h)).under (hb4.mono (by simp)) (fun _ h => h)).keep (fun b hb => by omega) (fun _ _ _ h => h)
             have cl := Plain_any [txt s.data.toList] (by simp [manyL, many1, txt]) (by simp [sayL, say1, txt]; omega) _ w4 hfo4
             have e1 : sayL [txt s.data.toList] = s.data.toList := by simp [sayL, say1, txt]
             rw [e1, mk_list] at cl
             have HB4 := Lib.hid ((HB3.out.alloc (by omega) _).trans (hb4.mono (by simp; omega)))
             clear hb4 hfo4 e1
             go_wp2_with fail
             refine cl.mono ?_
             clear cl
             rintro e w5 ⟨rfl, hb5⟩
             have HB5 := Lib.hid (HB4.out.trans (hb5.mono (by omega)))
             clear hb5
             go_wp2
             go_ret
             exact ⟨rfl, HB5.out⟩)
  · have hb2 : (20000 : Int) < (s.size : Int) := by omega
    go_enter Tryz.func5, Tryz.ntmps5
    go_wp2_with fail
    refine ca.mono ?_
    clear ca
    rintro e w1 ⟨rfl, hb1⟩
    have HB1 := Lib.hid hb1
    have ca2 := alive_any w1 m ((hb1.cell (p := ⟨0, 0, none⟩) hB).trans HM.out)
    have hs1 := hb1.size
    clear hb1
    go_wp2_with fail
    refine ca2.mono ?_
    clear ca2
    rintro e w2 ⟨rfl, hb2'⟩
    have HB2 := Lib.hid (HB1.out.trans (hb2'.mono hs1))
    clear hb2'
    go_wp2
    go_ret
    exact ⟨rfl, HB2.out⟩
end Go.Proofs.YtgiiglcgfbnaoaaGreatDoor
namespace Go.Proofs.YtgiiglcgfbnaoaaGreatDoor.spansNone
open Go.ChangeShapes Go.WideShapes Go.ChangeAt Go.RowKit Go.Bd Go.WideMaps Go.WideElems
open Go.ChangeMaps (open_string shut_string)
set_option maxRecDepth 100000 in
theorem contract (H : Type) (enc : TypeId × Value → H) (W : World) (base : Nat) (args : Array Value) (ds gs : List (DataW H)) (before : List MemPlace)
    (hval : ∀ (j : Nat) t v, Tryz.f5.params[j]? = some t → args[j]? = some v → Value.okWide Tryz.prog W .any base t v)
    (hW : DataW.Whole enc Tryz.prog Tryz.f5.params.toList Rows.spansNoneSpec.vars false W args.toList ds gs before) (hsh : W.ShapedOpen Tryz.prog)
    (hsz : (DataW.weightsEach Tryz.prog (Tryz.f5.params.toList ++ (OpenSpec.ofChange Rows.spansNoneSpec).bare.plain.varTypes Tryz.prog) (ds ++ gs)).all (· ≤ reachBytes) = true) :
    Calls Tryz.prog 5 args W fun e W' => ∃ v, e = .returned v ∧ Rows.spansNoneSpec.post enc Tryz.prog Tryz.f5 false true false false W args v W' := by
  obtain ⟨m, hm⟩ := maxLen_cell W hsh
  have hW' := hW
  obtain ⟨p, q, hA0, hV, rfl, hfz, hnd⟩ := hW
  have hA : DataW.TrodAll enc Tryz.prog W 0 (fun _ => true) true Tryz.f5.params.toList args.toList ds p := hA0
  rw [Tryz.params5] at hA hval hsz
  obtain ⟨v0, vs0, d0, ds0, p0, q0, hargs, rfl, rfl, h0, r0⟩ := trodAll_cons hA
  obtain ⟨rfl, rfl, rfl⟩ := trodAll_nil r0
  obtain rfl : args = #[v0] := by cases args; simp_all
  obtain ⟨rfl, rfl⟩ := trodVars_none hV
  obtain ⟨s0, rfl, rfl, rfl, hs0⟩ := open_string Tryz.underlying9 (hval 0 9 v0 rfl rfl) h0
  have b0 : s0.size ≤ 140737488355328 := by
    have := sized_string hsz (j := 0) (t := 9) (bytes := s0.data.toList) rfl rfl
    rw [size_list]; unfold reachBytes at this; omega
  refine (spansNone_true s0 m W hm b0).mono fun e W' ⟨he, hg⟩ => ?_
  subst he
  exact law_post hW' hg laidOut (by rw [Tryz.params5]; intro t ht; simp at ht; subst ht; exact ⟨by kernel_rfl, of_decide_eq_true (by kernel_rfl)⟩) rfl rfl (by kernel_rfl) Tryz.underlying4
theorem laid_met (os : Os) : laidMet Tryz.prog Rows.spansNoneRow.laid ((laidWorld os).forCall (fun _ _ => 0) ⟨#[], #[.string ⟨#[]⟩], []⟩).memory :=
  laidMet_of_run' 8 (by kernel_rfl) (by kernel_rfl)
theorem reads (os : Os) {H : Type} (enc : TypeId × Value → H) : ∃ places, DataW.whole enc Tryz.prog ((laidWorld os).forCall (fun _ _ => 0) ⟨#[], #[.string ⟨#[]⟩], []⟩).memory Tryz.f5.params.toList Rows.spansNoneSpec.vars false (#[.string ⟨#[]⟩] : Array Value).toList 8 = some ([.lit (.string [])], [], places) :=
  ⟨[], by kernel_rfl⟩
set_option maxRecDepth 100000 in
theorem lifted (os : Os) (started : os.Started) (H : Type) (enc : TypeId × Value → H) (F : Stop.Interp) :
    ReturnsInHanded {} Tryz.checked os 5 .any ((OpenSpec.ofChange Rows.spansNoneSpec).preRow enc Tryz.prog Tryz.f5 Rows.spansNoneRow.domain false Rows.spansNoneRow.laid) (((OpenSpec.ofChange Rows.spansNoneSpec).at F).post enc Tryz.prog Tryz.f5 false true false false) := by
  obtain ⟨places, hx⟩ := reads os enc
  refine returnsInHanded_of_row (C := Tryz.checked) (s := OpenSpec.ofChange Rows.spansNoneSpec) own started (by kernel_rfl) Tryz.func5
    (witness_row_at (enc := enc) (C := Tryz.checked) false (laidWorld os) #[.string ⟨#[]⟩] rfl (by kernel_rfl) (by kernel_rfl) (by kernel_rfl)
      (OpenSpec.preRow_of_cond 8 hx (by kernel_rfl) (fun k hk => by cases hk) (by kernel_rfl) (laid_met os))) ?_
  intro W base args ds gs before hval hW _ _ hsz _ hsh _
  exact contract H enc W base args ds gs before hval hW hsh hsz
theorem said : Rows.SpansNoneSaid :=
  OpenClaim.holds_of_cond 5 Tryz.f5 rfl rfl rfl rfl rfl rfl rfl ⟨rfl, rfl, rfl, rfl, rfl⟩ rfl rfl rfl rfl rfl (by kernel_rfl) Tryz.func5 (by kernel_rfl)
    (of_decide_eq_true (by kernel_rfl)) (by unfold Func.isWrapper; first | (rw [if_pos (by decide +kernel)]; kernel_rfl) | (rw [if_neg (by decide +kernel)]; exact ⟨rfl, rfl⟩))
    (fun os started H enc _ F => by rw [OpenClaim.pre_eq_preRow]; exact lifted os started H enc F)
theorem plain (f : FuncId) (fn : Func) (hf : Tryz.pinned.checked.prog.funcNamed Tryz.f5.name = some f) (hfn : Tryz.pinned.checked.prog.funcs[f]? = some fn) :
    false = Tryz.pinned.checked.prog.looks [] ∧ ∀ (j : Nat) t, fn.params[j]? = some t → Tryz.pinned.checked.prog.wantsStandIn t = false := by
  obtain rfl : f = 5 := Option.some.inj ((show Tryz.prog.funcNamed Tryz.f5.name = some 5 by kernel_rfl).symm.trans hf) |>.symm
  obtain rfl : fn = Tryz.f5 := (Option.some.inj (Tryz.func5.symm.trans hfn)).symm
  refine ⟨by kernel_rfl, fun j t ht => ?_⟩
  rw [Tryz.params5] at ht
  obtain rfl : t = 9 := by simpa using Array.mem_of_getElem? ht
  exact (show Tryz.prog.wantsStandIn 9 = false by kernel_rfl)
theorem card : Rows.SpansNoneCardSaid :=
  Claim7.holds_tied_plain_at .later [] _ _ _ _ said (fun _ h => by cases h) (by kernel_rfl) (fun _ h => by cases h) spansNone_row_tie rfl ⟨rfl, rfl⟩ (by kernel_rfl) rfl plain (by kernel_rfl)
end Go.Proofs.YtgiiglcgfbnaoaaGreatDoor.spansNone
