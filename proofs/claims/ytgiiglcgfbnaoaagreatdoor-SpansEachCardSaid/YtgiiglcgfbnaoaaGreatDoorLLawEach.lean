/-
  The law SpansEach: for every input it answers true, and the input reads as it did: the row, and its card. Its conditions: those of the given row alone.
-/
import Derived.Test.YtgiiglcgfbnaoaaGreatDoorK4
set_option linter.unusedSimpArgs false
set_option linter.unusedVariables false
namespace Go.Bd
theorem faults_open {w : Bs} (hw : (96 : UInt8) ∉ w) : ∃ l, faultsOf (96 :: w) = 7 :: l := by
  obtain ⟨l, h⟩ := code_open hw
  refine ⟨(sortF l).map (·.2), ?_⟩
  unfold faultsOf
  rw [h, sortF]
  have e : ∀ m : List (Nat × Nat), insF (0, 7) m = (0, 7) :: m := fun m => by
    cases m with
    | nil => rfl
    | cons q m => rw [insF, if_pos (Nat.zero_le _)]
  rw [e]
  rfl
/-- what a text's end tells -/
theorem of_end {s : Bs} {x : Sp} (h : endP s = ⟨[⟨⟨[x], []⟩, 0, [], 0⟩], []⟩) : faultsOf s = [] ∧ spansOf s = [x] := by
  refine ⟨(faultsOf_nil _).2 (by unfold faultsAt; rw [h]), ?_⟩
  unfold spansOf
  rw [h]
  rfl
theorem of_text {s : Bs} (hn : s ≠ []) (h : AllText s) : faultsOf s = [] ∧ spansOf s = [txt s] := by
  have h' : endP s = ⟨[⟨⟨[], s⟩, 0, [], 0⟩], []⟩ := h
  refine ⟨(faultsOf_nil _).2 (by unfold faultsAt; rw [h']), ?_⟩
  unfold spansOf
  rw [h']
  simp [Rw.flush, hn]
/-- one of sound spans -/
theorem snd_at : ∀ {l : List Sp} {d p k : Nat} {x : Sp}, sndL l d p = true → l[k]? = some x → snd1 x d = true ∧ (x.kind = 0 → (k = 0 → p ≠ 0) ∧ ∀ y, 0 < k → l[k - 1]? = some y → y.kind ≠ 0)
  | [], _, _, _, _, _, hx => by simp at hx
  | y :: l, d, p, 0, x, h, hx => by
    simp only [List.getElem?_cons_zero, Option.some.injEq] at hx
    subst hx
    simp only [sndL, Bool.and_eq_true, Bool.not_eq_true', Bool.and_eq_false_iff, decide_eq_false_iff_not] at h
    exact ⟨h.1.1, fun h0 => ⟨fun _ => h.1.2.resolve_left (fun hn => hn h0), fun _ hk => absurd hk (Nat.lt_irrefl 0)⟩⟩
  | y :: l, d, p, k + 1, x, h, hx => by
    simp only [sndL, Bool.and_eq_true] at h
    simp only [List.getElem?_cons_succ] at hx
    obtain ⟨h1, h2⟩ := snd_at h.2 hx
    refine ⟨h1, fun h0 => ⟨fun hk => by omega, fun z _ hz => ?_⟩⟩
    cases k with
    | zero =>
      simp only [Nat.zero_add, Nat.sub_self, List.getElem?_cons_zero, Option.some.injEq] at hz
      subst hz
      exact (h2 h0).1 rfl
    | succ k => exact (h2 h0).2 z (by omega) (by simpa using hz)
/-- what a sound span has -/
theorem snd_cases {x : Sp} {d : Nat} (h : snd1 x d = true) :
    (x.kind = 0 ∧ x.text ≠ [] ∧ x.kids = [] ∧ x.sub = [] ∧ x.see = []) ∨ ((x.kind = 3 ∨ x.kind = 4) ∧ x.kids = [] ∧ x.sub = [] ∧ x.see = []) ∨ (x.kind = 5 ∧ x.kids = []) ∨
    ((x.kind = 1 ∨ x.kind = 2) ∧ x.text = [] ∧ d ≠ 16 ∧ sndL x.kids (d + 1) 1 = true ∧ x.kids ≠ [] ∧ x.sub = [] ∧ x.see = []) ∨ (x.kind = 6 ∧ x.text = [] ∧ d ≠ 16 ∧ sndL x.kids (d + 1) 1 = true ∧ x.sub = [] ∧ x.see = []) := by
  obtain ⟨k, t, u, v, kids⟩ := x
  simp only [snd1, Bool.and_eq_true] at h
  obtain ⟨⟨⟨⟨h1, h2⟩, h3⟩, h4⟩, h5⟩ := h
  have hk : k ≤ 6 := by simpa using h1
  have hq : k = 0 ∨ k = 1 ∨ k = 2 ∨ k = 3 ∨ k = 4 ∨ k = 5 ∨ k = 6 := by omega
  rcases hq with rfl | rfl | rfl | rfl | rfl | rfl | rfl <;> simp at h2 h3 h4 h5 ⊢ <;> simp [*]
end Go.Bd
namespace Go.Proofs.YtgiiglcgfbnaoaaGreatDoor
open Go.RowKit Go.Bd
def ManyOk (N : Nat) : Prop := ∀ (l : List Sp), manyL l ≤ N → manyL l ≤ 1000000000 → ∀ (v : Value) (w : World) (B : Nat), Forest w (· < B) v l → B ≤ w.heap.size →
    Calls Tryz.prog 23 #[v] w fun e w' => e = .returned (.int .i64 (manyL l : Int)) ∧ Below B w w'
theorem manyL_take {l : List Sp} {k : Nat} {x : Sp} (h : l[k]? = some x) : manyL (l.take (k + 1)) = manyL (l.take k) + 1 + manyL x.kids := by
  rw [List.take_add_one, h, manyL_app]
  obtain ⟨q, t, u, v, ks⟩ := x
  simp [manyL, many1]; omega
set_option maxRecDepth 100000 in
set_option maxHeartbeats 2000000 in
theorem many_step {N : Nat} (ih : ∀ M, M < N → ManyOk M) : ManyOk N := by
  intro l hN hm v w B hF hB
  obtain ⟨A, c, rfl, hc⟩ := hF.len
  have hlm := many_len l
  have HF := Lib.hid hF
  have HIH := Lib.hid ih
  clear hF ih
  obtain ⟨n, hn⟩ : ∃ n, l.length = n := ⟨_, rfl⟩
  obtain ⟨mm, hmm⟩ : ∃ mm, manyL l = mm := ⟨_, rfl⟩
  have HN := Lib.hid hn
  have HMM := Lib.hid hmm
  simp only [hn, hmm] at hc hlm hN hm HF ⊢
  clear hn hmm
  go_enter Tryz.func23, Tryz.ntmps23
  go_wp2
  go_loopg [3, 4] n (fun q vn vi wr => ∃ k a : Nat, k + q = n ∧ vi = .int .i64 (k : Int) ∧ vn = .int .i64 (a : Int) ∧ a ≤ mm ∧ Hid (a + k = n + manyL (l.take k) ∧ Below B w wr))
  case atStart => exact ⟨0, n, by omega, rfl, rfl, hlm, by simp [manyL], Below.refl _ _⟩
  case round =>
    obtain ⟨k, a, hk, rfl, rfl, ham, HR⟩ := hrel
    by_cases hlt : k < n
    · obtain ⟨x, hx⟩ : ∃ x, l[k]? = some x := ⟨_, List.getElem?_eq_getElem (by rw [HN.out]; exact hlt)⟩
      obtain ⟨b1, off, kA, kc, rfl, hb1, hkF, p0, p1, p2, p3, p4⟩ := HF.out.at hx
      have hbl := HR.out.2
      replace p4 := (hbl.cell (p := ⟨b1, off + k * 5 + 4, none⟩) hb1).trans p4
      have hgt := many_get hx
      rw [HMM.out] at hgt
      have hrb := hbl.size
      have htk := manyL_take hx
      have hbd : manyL (l.take (k + 1)) + n ≤ mm + (k + 1) := by
        have e := manyL_app (l.take (k + 1)) (l.drop (k + 1))
        rw [List.take_append_drop, HMM.out] at e
        have h2 := many_len (l.drop (k + 1))
        rw [List.length_drop, HN.out] at h2
        omega
      have ci := HIH.out (manyL x.kids) (by omega) x.kids (Nat.le_refl _) (by omega) _ wr B (hkF.under hbl (fun _ h => h)) (by omega)
      have hsum : a + manyL x.kids + (k + 1) = n + manyL (l.take (k + 1)) := by have := HR.out.1; omega
      have HSM := Lib.hid hsum
      have ham2 : a + manyL x.kids ≤ mm := by omega
      generalize manyL x.kids = mk at ci ham2 HSM
      clear hx hkF hbl p0 p1 p2 p3 htk hbd hgt hsum
      go_wp2_with fail
      refine ci.mono ?_
      clear ci
      rintro e w2 ⟨rfl, hb2⟩
      have HB2 := Lib.hid (HR.out.2.trans hb2)
      clear hb2
      go_wp2
      go_roundg (gk - 1)
      case measure => omega
      case rel => exact ⟨k + 1, a + mk, by omega, by go_num, by go_num, ham2, HSM.out, HB2.out⟩
    · obtain rfl : k = n := by omega
      have ha : a = mm := by
        have h1 := HR.out.1
        rw [List.take_of_length_le (by rw [HN.out]; exact Nat.le_refl _), HMM.out] at h1
        omega
      subst ha
      go_wp2
      go_ret
      exact ⟨rfl, HR.out.2⟩
theorem many_any (N : Nat) : ManyOk N := by
  induction N using Nat.strongRecOn with
  | _ N ih => exact many_step ih
def faultV (f : Nat) : Value := .int .i64 (f : Int)
theorem faults_rd {w : World} {B : Nat} {v : Value} {l : List Nat} (h : FaultRow w B v l) : Rd w w.heap.size v (l.map faultV) := own_rd h
theorem faults_le {w : World} {B : Nat} {v : Value} {l : List Nat} (h : FaultRow w B v l) : l.length ≤ 9223372036854775807 := by
  rcases h.2 with ⟨_, h0⟩ | ⟨g, cap, cur, hv, hb, hh, hc, hm, hs, _⟩
  · omega
  · unfold maxLen at hm; omega
set_option maxRecDepth 100000 in
/-- faults that are the same -/
theorem sameFaults_any (l : List Nat) (hL : l.length ≤ 9223372036854775807) (a b : Value) (w : World) (B : Nat) (ha : Rd w B a (l.map faultV)) (hb : Rd w B b (l.map faultV)) :
    Calls Tryz.prog 24 #[a, b] w fun e w' => e = .returned (.bool true) ∧ Below w.heap.size w w' := by
  obtain ⟨A, ca, rfl, hca, fa⟩ := ha.form
  obtain ⟨C, cb, rfl, hcb, fb⟩ := hb.form
  rw [List.length_map] at hca hcb
  rw [List.length_map]
  have FA : Hid (∀ (j : Nat) x, l[j]? = some x → ∃ b off, A = some ⟨b, off, none⟩ ∧ b < B ∧ w.cell? ⟨b, off + j, none⟩ = some (.int .i64 (x : Int))) := fun j x hj => fa j _ (by rw [List.getElem?_map, hj]; rfl)
  have FB : Hid (∀ (j : Nat) x, l[j]? = some x → ∃ b off, C = some ⟨b, off, none⟩ ∧ b < B ∧ w.cell? ⟨b, off + j, none⟩ = some (.int .i64 (x : Int))) := fun j x hj => fb j _ (by rw [List.getElem?_map, hj]; rfl)
  clear ha hb fa fb
  generalize hn : l.length = n at hca hcb hL ⊢
  have HN := Lib.hid hn
  clear hn
  go_enter Tryz.func24, Tryz.ntmps24
  go_wp2
  go_loopg [5] n (fun r i wr => ∃ k : Nat, k + r = n ∧ i = .int .i64 k ∧ Below w.heap.size w wr ∧ (∀ p : Addr, wr.cell? p = w.cell? p))
  case atStart => exact ⟨0, by omega, rfl, Below.refl _ _, fun _ => rfl⟩
  case round =>
    obtain ⟨k, hk, rfl, hbl, hcell⟩ := hrel
    by_cases hlt : k < n
    · obtain ⟨s, hs⟩ : ∃ s, l[k]? = some s := ⟨_, List.getElem?_eq_getElem (by rw [HN.out]; exact hlt)⟩
      obtain ⟨b1, o1, rfl, _, c1⟩ := FA.out k s hs
      obtain ⟨b2, o2, rfl, _, c2⟩ := FB.out k s hs
      replace c1 := (hcell _).trans c1
      replace c2 := (hcell _).trans c2
      have HC := Lib.hid hcell
      clear hcell hs
      go_wp2
      go_quiet (fail)
      go_wp2
      have hb2 := below_drewN hbl nq
      go_roundg (gk - 1)
      case measure => omega
      case rel => exact ⟨k + 1, by omega, by go_num, hb2, fun p => HC.out p⟩
    · have hk' : n ≤ k := by omega
      have HC := Lib.hid hcell
      clear hcell
      go_wp2
      go_ret
      exact ⟨rfl, hbl⟩
end Go.Proofs.YtgiiglcgfbnaoaaGreatDoor
namespace Go.Bd
/-- asf many asf there are of the first kinds -/
def sumE (l : List Sp) : Nat → Nat
  | 0 => 0
  | k + 1 => sumE l k + (eachL l k).length
theorem sumE_mono (l : List Sp) : ∀ {a b : Nat}, a ≤ b → sumE l a ≤ sumE l b
  | a, 0, h => by obtain rfl : a = 0 := by omega
                  exact Nat.le_refl _
  | a, b + 1, h => by
    rcases Nat.lt_or_ge b a with h1 | h1
    · obtain rfl : a = b + 1 := by omega
      exact Nat.le_refl _
    · have := sumE_mono l h1
      simp only [sumE]; omega
theorem sumE_all {l : List Sp} (h : kindsL l = true) : sumE l 7 = manyL l := by
  rw [← each_sumL l h]
  simp only [sumE, sum7]; omega
end Go.Bd
namespace Go.Proofs.YtgiiglcgfbnaoaaGreatDoor
open Go.RowKit Go.Bd
set_option maxRecDepth 100000 in
set_option maxHeartbeats 4000000 in
theorem spansEach_true (s : ByteArray) (m : Int) (w : World) (hm : w.cell? ⟨0, 0, none⟩ = some (.int .i64 m)) (hs : s.size ≤ 140737488355328) :
    Calls Tryz.prog 7 #[.string s] w fun e w' => e = .returned (.bool true) ∧ Below w.heap.size w w' := by
  have hB : 0 < w.heap.size := World.block_lt_of_cell? w _ hm
  have HM := Lib.hid hm
  have ca := alive_any w m hm
  clear hm
  by_cases hbig : s.size ≤ 2000
  · go_enter Tryz.func7, Tryz.ntmps7
    go_wp2_with fail
    refine ca.mono ?_
    clear ca
    rintro e w1 ⟨rfl, hb1⟩
    have HB1 := Lib.hid hb1
    have hs1 := hb1.size
    have cp := parseSpans_any s w1 (by omega) m ((hb1.cell (p := ⟨0, 0, none⟩) hB).trans HM.out)
    clear hb1
    have hmany := many_spans s.data.toList
    rw [show s.data.toList.length = s.size by simp] at hmany
    have KL := Lib.hid (kinds_spans s.data.toList)
    obtain ⟨L, hL⟩ : ∃ L, spansOf s.data.toList = L := ⟨_, rfl⟩
    rw [hL] at hmany KL cp
    clear hL
    have hall := sumE_all KL.out
    have HMONO := Lib.hid (fun k (hk : k ≤ 7) => sumE_mono L hk)
    have HALL := Lib.hid hall
    clear hall
    go_wp2_with fail
    refine cp.mono ?_
    clear cp
    rintro e w2 ⟨sv, fv, rfl, hb2, hf2, hr2⟩
    obtain ⟨Af, cf, rfl, _⟩ := own_slice2 hr2
    have hs2 := hb2.size
    obtain ⟨A2, c2, rfl, _⟩ := hf2.len
    have HFO := Lib.hid hf2
    have HB2 := Lib.hid (HB1.out.trans (hb2.mono hs1))
    clear hb2 hf2 hr2
    obtain ⟨ln, hln⟩ : ∃ ln, L.length = ln := ⟨_, rfl⟩
    rw [hln] at HFO ⊢
    have HLN := Lib.hid hln
    clear hln
    go_wp2
    go_loopg [5, 6] 7 (fun q va vk wr => ∃ k a : Nat, k + q = 7 ∧ vk = .int .u8 (k : Int) ∧ va = .int .i64 (a : Int) ∧ a ≤ 2000 ∧ Hid (a = sumE L k ∧ Below w.heap.size w wr ∧ Below w2.heap.size w2 wr))
    case atStart => exact ⟨0, 0, by omega, rfl, rfl, by omega, rfl, HB2.out, Below.refl _ _⟩
    case round =>
      obtain ⟨k, a, hk, rfl, rfl, ha, HR⟩ := hrel
      obtain ⟨gO, hgO⟩ : ∃ x, x = gk := ⟨_, rfl⟩
      subst hgO
      have hws := HR.out.2.1.size
      have hws2 := HR.out.2.2.size
      have hfk : Forest wr (· < wr.heap.size) (.slice A2 ln c2) L := (HFO.out.under HR.out.2.2 (fun _ h => h)).keep (fun b hb => by have : b < w2.heap.size := hb; omega) (fun _ _ _ h => h)
      by_cases hlt : k < 7
      · have ce := Each_any L (by omega) _ wr k hfk
        have hsum : sumE L (k + 1) ≤ manyL L := by rw [← HALL.out]; exact HMONO.out _ (by omega)
        have hs1 : sumE L (k + 1) = a + (eachL L k).length := by rw [HR.out.1]; rfl
        have HKE := Lib.hid (eachL_kind L k)
        have HS1 := Lib.hid hs1
        have hbd : a + (eachL L k).length ≤ 2000 := by omega
        generalize eachL L k = E at ce HKE HS1 hbd
        clear hfk hsum hs1
        go_wp2_with fail
        refine ce.mono ?_
        clear ce
        rintro e w3 ⟨A3, c3, rfl, hf3, hb3⟩
        have HF3 := Lib.hid hf3
        have HB3 := Lib.hid (HR.out.2.1.trans (hb3.mono hws))
        have HB3b := Lib.hid (HR.out.2.2.trans (hb3.mono hws2))
        clear hf3 hb3
        obtain ⟨n3, hn3⟩ : ∃ n3, E.length = n3 := ⟨_, rfl⟩
        rw [hn3] at HF3 HS1 hbd ⊢
        have HN3 := Lib.hid hn3
        clear hn3
        go_wp2
        go_loopg [8] n3 (fun q vi wi => wi = w3 ∧ ∃ i : Nat, i + q = n3 ∧ vi = .int .i64 (i : Int))
        case atStart => exact ⟨rfl, 0, by omega, rfl⟩
        case round =>
          obtain ⟨rfl, i, hi, rfl⟩ := hrel
          by_cases hil : i < n3
          · obtain ⟨x, hx⟩ : ∃ x, E[i]? = some x := ⟨_, List.getElem?_eq_getElem (by rw [HN3.out]; exact hil)⟩
            obtain ⟨b1, off, kA, kc, rfl, hb1, hkF, p0, p1, p2, p3, p4⟩ := HF3.out.at hx
            have hxk := HKE.out x (List.mem_of_getElem? hx)
            rw [hxk] at p0
            clear hx hkF p1 p2 p3 p4 hxk
            go_wp2
            go_roundg (gk - 1)
            case measure => omega
            case rel => exact ⟨rfl, i + 1, by omega, by go_num⟩
          · obtain rfl : i = n3 := by omega
            go_wp2
            go_roundg (gO - 1)
            case measure => omega
            case rel => exact ⟨k + 1, a + i, by omega, by go_num, by go_num, hbd, HS1.out.symm, HB3.out, HB3b.out⟩
      · obtain rfl : k = 7 := by omega
        have cm := many_any (manyL L) L (Nat.le_refl _) (by omega) _ wr wr.heap.size hfk (Nat.le_refl _)
        have ham : a = manyL L := HR.out.1.trans HALL.out
        subst ham
        have HFK := Lib.hid hfk
        have HE7 := Lib.hid (each_noneL L KL.out)
        clear hfk
        go_wp2_with fail
        refine cm.mono ?_
        clear cm
        rintro e w3 ⟨rfl, hb3⟩
        have hs3 := hb3.size
        have ce := Each_any L (by omega) _ w3 7 ((HFK.out.under hb3 (fun _ h => h)).keep (fun b hb => by have : b < wr.heap.size := hb; omega) (fun _ _ _ h => h))
        rw [HE7.out] at ce
        have HB3 := Lib.hid (HR.out.2.1.trans (hb3.mono hws))
        clear hb3
        go_wp2_with fail
        refine ce.mono ?_
        clear ce
        rintro e w4 ⟨A4, c4, rfl, hf4, hb4⟩
        have HB4 := Lib.hid (HB3.out.trans (hb4.mono (by omega)))
        clear hf4 hb4
        simp only [List.length_nil]
        go_wp2
        go_ret
        exact ⟨rfl, HB4.out⟩
  · have hb2 : (2000 : Int) < (s.size : Int) := by omega
    go_enter Tryz.func7, Tryz.ntmps7
    go_wp2_with fail
    refine ca.mono ?_
    clear ca
    rintro e w1 ⟨rfl, hb1⟩
    have HB1 := Lib.hid hb1
    have ca2 := alive_any w1 m ((hb1.cell (p := ⟨0, 0, none⟩) hB).trans HM.out)
    have hs1 := hb1.size
    clear hb1
    go_wp2_with fail
    refine ca2.mono ?_
    clear ca2
    rintro e w2 ⟨rfl, hb2'⟩
    have HB2 := Lib.hid (HB1.out.trans (hb2'.mono hs1))
    clear hb2'
    go_wp2
    go_ret
    exact ⟨rfl, HB2.out⟩
end Go.Proofs.YtgiiglcgfbnaoaaGreatDoor
namespace Go.Proofs.YtgiiglcgfbnaoaaGreatDoor.spansEach
open Go.ChangeShapes Go.WideShapes Go.ChangeAt Go.RowKit Go.Bd Go.WideMaps Go.WideElems
open Go.ChangeMaps (open_string shut_string)
set_option maxRecDepth 100000 in
theorem contract (H : Type) (enc : TypeId × Value → H) (W : World) (base : Nat) (args : Array Value) (ds gs : List (DataW H)) (before : List MemPlace)
    (hval : ∀ (j : Nat) t v, Tryz.f7.params[j]? = some t → args[j]? = some v → Value.okWide Tryz.prog W .any base t v)
    (hW : DataW.Whole enc Tryz.prog Tryz.f7.params.toList Rows.spansEachSpec.vars false W args.toList ds gs before) (hsh : W.ShapedOpen Tryz.prog)
    (hsz : (DataW.weightsEach Tryz.prog (Tryz.f7.params.toList ++ (OpenSpec.ofChange Rows.spansEachSpec).bare.plain.varTypes Tryz.prog) (ds ++ gs)).all (· ≤ reachBytes) = true) :
    Calls Tryz.prog 7 args W fun e W' => ∃ v, e = .returned v ∧ Rows.spansEachSpec.post enc Tryz.prog Tryz.f7 false true false false W args v W' := by
  obtain ⟨m, hm⟩ := maxLen_cell W hsh
  have hW' := hW
  obtain ⟨p, q, hA0, hV, rfl, hfz, hnd⟩ := hW
  have hA : DataW.TrodAll enc Tryz.prog W 0 (fun _ => true) true Tryz.f7.params.toList args.toList ds p := hA0
  rw [Tryz.params7] at hA hval hsz
  obtain ⟨v0, vs0, d0, ds0, p0, q0, hargs, rfl, rfl, h0, r0⟩ := trodAll_cons hA
  obtain ⟨rfl, rfl, rfl⟩ := trodAll_nil r0
  obtain rfl : args = #[v0] := by cases args; simp_all
  obtain ⟨rfl, rfl⟩ := trodVars_none hV
  obtain ⟨s0, rfl, rfl, rfl, hs0⟩ := open_string Tryz.underlying9 (hval 0 9 v0 rfl rfl) h0
  have b0 : s0.size ≤ 140737488355328 := by
    have := sized_string hsz (j := 0) (t := 9) (bytes := s0.data.toList) rfl rfl
    rw [size_list]; unfold reachBytes at this; omega
  refine (spansEach_true s0 m W hm b0).mono fun e W' ⟨he, hg⟩ => ?_
  subst he
  exact law_post hW' hg laidOut (by rw [Tryz.params7]; intro t ht; simp at ht; subst ht; exact ⟨by kernel_rfl, of_decide_eq_true (by kernel_rfl)⟩) rfl rfl (by kernel_rfl) Tryz.underlying4
theorem laid_met (os : Os) : laidMet Tryz.prog Rows.spansEachRow.laid ((laidWorld os).forCall (fun _ _ => 0) ⟨#[], #[.string ⟨#[]⟩], []⟩).memory :=
  laidMet_of_run' 8 (by kernel_rfl) (by kernel_rfl)
theorem reads (os : Os) {H : Type} (enc : TypeId × Value → H) : ∃ places, DataW.whole enc Tryz.prog ((laidWorld os).forCall (fun _ _ => 0) ⟨#[], #[.string ⟨#[]⟩], []⟩).memory Tryz.f7.params.toList Rows.spansEachSpec.vars false (#[.string ⟨#[]⟩] : Array Value).toList 8 = some ([.lit (.string [])], [], places) :=
  ⟨[], by kernel_rfl⟩
set_option maxRecDepth 100000 in
theorem lifted (os : Os) (started : os.Started) (H : Type) (enc : TypeId × Value → H) (F : Stop.Interp) :
    ReturnsInHanded {} Tryz.checked os 7 .any ((OpenSpec.ofChange Rows.spansEachSpec).preRow enc Tryz.prog Tryz.f7 Rows.spansEachRow.domain false Rows.spansEachRow.laid) (((OpenSpec.ofChange Rows.spansEachSpec).at F).post enc Tryz.prog Tryz.f7 false true false false) := by
  obtain ⟨places, hx⟩ := reads os enc
  refine returnsInHanded_of_row (C := Tryz.checked) (s := OpenSpec.ofChange Rows.spansEachSpec) own started (by kernel_rfl) Tryz.func7
    (witness_row_at (enc := enc) (C := Tryz.checked) false (laidWorld os) #[.string ⟨#[]⟩] rfl (by kernel_rfl) (by kernel_rfl) (by kernel_rfl)
      (OpenSpec.preRow_of_cond 8 hx (by kernel_rfl) (fun k hk => by cases hk) (by kernel_rfl) (laid_met os))) ?_
  intro W base args ds gs before hval hW _ _ hsz _ hsh _
  exact contract H enc W base args ds gs before hval hW hsh hsz
theorem said : Rows.SpansEachSaid :=
  OpenClaim.holds_of_cond 7 Tryz.f7 rfl rfl rfl rfl rfl rfl rfl ⟨rfl, rfl, rfl, rfl, rfl⟩ rfl rfl rfl rfl rfl (by kernel_rfl) Tryz.func7 (by kernel_rfl)
    (of_decide_eq_true (by kernel_rfl)) (by unfold Func.isWrapper; first | (rw [if_pos (by decide +kernel)]; kernel_rfl) | (rw [if_neg (by decide +kernel)]; exact ⟨rfl, rfl⟩))
    (fun os started H enc _ F => by rw [OpenClaim.pre_eq_preRow]; exact lifted os started H enc F)
theorem plain (f : FuncId) (fn : Func) (hf : Tryz.pinned.checked.prog.funcNamed Tryz.f7.name = some f) (hfn : Tryz.pinned.checked.prog.funcs[f]? = some fn) :
    false = Tryz.pinned.checked.prog.looks [] ∧ ∀ (j : Nat) t, fn.params[j]? = some t → Tryz.pinned.checked.prog.wantsStandIn t = false := by
  obtain rfl : f = 7 := Option.some.inj ((show Tryz.prog.funcNamed Tryz.f7.name = some 7 by kernel_rfl).symm.trans hf) |>.symm
  obtain rfl : fn = Tryz.f7 := (Option.some.inj (Tryz.func7.symm.trans hfn)).symm
  refine ⟨by kernel_rfl, fun j t ht => ?_⟩
  rw [Tryz.params7] at ht
  obtain rfl : t = 9 := by simpa using Array.mem_of_getElem? ht
  exact (show Tryz.prog.wantsStandIn 9 = false by kernel_rfl)
theorem card : Rows.SpansEachCardSaid :=
  Claim7.holds_tied_plain_at .later [] _ _ _ _ said (fun _ h => by cases h) (by kernel_rfl) (fun _ h => by cases h) spansEach_row_tie rfl ⟨rfl, rfl⟩ (by kernel_rfl) rfl plain (by kernel_rfl)
end Go.Proofs.YtgiiglcgfbnaoaaGreatDoor.spansEach
