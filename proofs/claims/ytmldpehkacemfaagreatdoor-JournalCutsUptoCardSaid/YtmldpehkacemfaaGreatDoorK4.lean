/-
  What the chapter's laws share, part 4: plain facts, memory, and walks of functions. Its conditions: those that each theorem names.
-/
import Derived.Test.YtmldpehkacemfaaGreatDoorK3
set_option linter.unusedSimpArgs false
set_option linter.unusedVariables false
namespace Go.Proofs.YtmldpehkacemfaaGreatDoor
open Go.RowKit Go.Bd
theorem cnt_size (n : Nat) : (cntN n).size ≤ 10 := by
  unfold cntN decN
  split <;> simp [ByteArray.size]
set_option maxRecDepth 100000 in
set_option maxHeartbeats 2000000 in
theorem end_any {w : World} {F Ro : Nat → Prop} {db size : Nat} {hist : List Raw} (h : Dk w F Ro db size hist) (m : Nat) (hm : m < 98) (hh : hist.length + 10 ≤ 900000) (hsz : size ≤ 8388608) (nv : Int) (hnv : nv = (m : Int) + 1) :
    Calls Tryz.prog 29 #[.pointer (some ⟨db, 0, none⟩), .int .u64 nv] w fun e w' => e = .returned (.tuple #[]) ∧ DkTo w w' F Ro db size (runO size [.rm (cntN m), .wr (cntN (m + 1)) []] hist) := by
  have c1 := fun W => counter_any m (by omega) W
  have c2 := fun W => counter_any (m + 1) (by omega) W
  have hs1 := cnt_size m
  have hs2 := cnt_size (m + 1)
  have e1 : runO size [.rm (cntN m), .wr (cntN (m + 1)) []] hist = (hist ++ DOp.raws size (runR hist) (.rm (cntN m))) ++ DOp.raws size (runR (hist ++ DOp.raws size (runR hist) (.rm (cntN m)))) (.wr (cntN (m + 1)) []) := rfl
  have e2 := raws_cost size (runR hist) (.rm (cntN m))
  rw [e1]
  obtain ⟨s1, h1⟩ : ∃ s1, cntN m = s1 := ⟨_, rfl⟩
  obtain ⟨s2, h2⟩ : ∃ s2, cntN (m + 1) = s2 := ⟨_, rfl⟩
  rw [h1] at c1 hs1 e2 ⊢
  rw [h2] at c2 hs2 ⊢
  have e3 : (DOp.rm s1).cost = 1 := rfl
  rw [e3] at e2
  have hrm := rm_dk h s1 (by omega) (by omega)
  obtain ⟨hist1, hh1⟩ : ∃ hist1, hist ++ DOp.raws size (runR hist) (.rm s1) = hist1 := ⟨_, rfl⟩
  have hl1 : hist1.length ≤ hist.length + 1 := by rw [← hh1, List.length_append]; omega
  rw [hh1] at hrm ⊢
  have ez : (((m : Nat) : Int) + 1) - 1 = (m : Int) := by omega
  have ey : (((m + 1 : Nat)) : Int) = (m : Int) + 1 := by omega
  rw [ey] at c2
  subst hnv
  clear h h1 h2 hh1 e1 e2 e3 ey
  go_enter Tryz.func29, Tryz.ntmps29
  go_wp2_with (first
    | (go_at_call 32; refine (c1 _).mono ?_; rintro e w2 ⟨rfl, rfl⟩)
    | (go_at_call 42; refine hrm.mono ?_; rintro e w3 ⟨⟨v, rfl⟩, h3⟩; obtain ⟨F1, Ro1, hD1, hF1, hR1, hc1⟩ := h3; have hwr := wr0_dk hD1 s2 (by omega) (by omega) hsz; have HC := Lib.hid (And.intro hF1 (And.intro hR1 hc1)); clear hD1 hF1 hR1 hc1)
    | (go_at_call 32; refine (c2 _).mono ?_; rintro e w2 ⟨rfl, rfl⟩)
    | (go_at_call 31; refine hwr.mono ?_; rintro e w4 ⟨rfl, h4⟩; have HD4 := Lib.hid (h4.step HC.out.1 HC.out.2.1 HC.out.2.2); clear h4))
  go_end0
  exact ⟨rfl, HD4.out⟩
def trO (fs : Fs) : List DOp := if (getB fs trialN).isSome = true then [.rm trialN] else []
theorem settle_none {fs : Fs} (h : cntOf fs = none) : settleM fs = (0, trO fs) := by unfold settleM; rw [h]; rfl
theorem settle_old {fs : Fs} {n : Nat} (h : cntOf fs = some n) (hc : n = 0 ∨ getB fs (cntN (n - 1)) = none) : settleM fs = (n, trO fs ++ if (getB fs (cntN n)).getD [] = [] then [] else [.wr (cntN n) []]) := by
  unfold settleM; rw [h]; simp only [if_pos hc]; rfl
theorem settle_part {fs : Fs} {m : Nat} (h : cntOf fs = some (m + 1)) (hc : getB fs (cntN m) ≠ none) (hp : readP ((getB fs (cntN (m + 1))).getD []) = none) : settleM fs = (m, trO fs ++ [.rm (cntN (m + 1))]) := by
  unfold settleM; rw [h]
  simp only
  rw [if_neg (by rintro (h | h); omega; exact hc h), hp]
  rfl
theorem settle_whole {fs : Fs} {m : Nat} {p : Plan} (h : cntOf fs = some (m + 1)) (hc : getB fs (cntN m) ≠ none) (hp : readP ((getB fs (cntN (m + 1))).getD []) = some p) : settleM fs = (m + 1, trO fs ++ (p.ops ++ [.rm (cntN m), .wr (cntN (m + 1)) []])) := by
  unfold settleM; rw [h]
  simp only
  rw [if_neg (by rintro (h | h); omega; exact hc h), hp]
  rfl
theorem readB_name {fs : Fs} {s : ByteArray} (h : nameB s = true) : (readB fs s).1 = (getB fs s).getD [] := by
  unfold readB
  rw [if_pos h]
  cases getB fs s <;> rfl
theorem getB_used {fs : Fs} {s : ByteArray} : ((getB fs s).getD []).length ≤ usedB fs := by
  cases h : getB fs s with
  | none => simp
  | some b =>
    have h1 := getB_mem h
    have h2 : b.length ∈ fs.map (·.2.length) := List.mem_map.2 ⟨_, h1, rfl⟩
    exact le_sum h2
theorem Dk.used_le {w : World} {F Ro : Nat → Prop} {db size : Nat} {hist : List Raw} (h : Dk w F Ro db size hist) : usedB (runR hist) ≤ 512 * hist.length := by
  obtain ⟨bm, es, hv, fs, h⟩ := h
  have := h.used_le
  rwa [h.says] at this
theorem Dk.len_le {w : World} {F Ro : Nat → Prop} {db size : Nat} {hist : List Raw} (h : Dk w F Ro db size hist) : (namesB (runR hist)).length ≤ hist.length := by
  obtain ⟨bm, es, hv, fs, h⟩ := h
  have := h.len_le
  unfold namesB
  rw [List.length_mergeSort, List.length_map, ← h.says]
  simpa [fsOf] using this
theorem own_bytes {w : World} {B n : Nat} {v : Value} {b : Bs} (h : w.ownsRow B 5 1 v n (u8L b)) (hn : n = b.length) : ∃ A c, v = .slice A b.length c ∧ b.length ≤ c ∧ ((A = none ∧ b = [] ∧ c = 0) ∨ ∃ blk off, A = some ⟨blk, off, none⟩ ∧ blk < w.heap.size ∧ ∀ (j : Nat) x, b[j]? = some x → w.cell? ⟨blk, off + j, none⟩ = some (.int .u8 (x.toNat : Int))) := by
  subst hn
  rcases h.2 with ⟨h1, h2⟩ | ⟨g, cap, cur, h1, h2, h3, h4, _⟩
  · refine ⟨none, 0, by rw [h1, h2], by omega, .inl ⟨rfl, List.length_eq_zero_iff.1 h2, rfl⟩⟩
  · refine ⟨_, _, h1, h4, .inr ⟨g, 0, rfl, (Array.getElem?_eq_some_iff.1 h3).1, fun j x hx => ?_⟩⟩
    have := h.cells (g := g) (by rw [h1]; rfl) j (.int .u8 (x.toNat : Int)) (by unfold u8L; rw [List.getElem?_map, hx]; rfl)
    rw [Addr.add_lit] at this
    simpa using this
set_option maxRecDepth 100000 in
set_option maxHeartbeats 4000000 in
theorem settle_any {w : World} {F Ro : Nat → Prop} {db size : Nat} {hist : List Raw} (h : Dk w F Ro db size hist) (hk : ∀ x ∈ namesB (runR hist), NameK x) (hh : hist.length ≤ 190000) (hco : costO (settleM (runR hist)).2 ≤ 500000) (hsz : size ≤ 8388608) :
    Calls Tryz.prog 16 #[.pointer (some ⟨db, 0, none⟩)] w fun e w' => e = .returned (.int .u64 ((settleM (runR hist)).1 : Int)) ∧ DkTo w w' F Ro db size (runO size (settleM (runR hist)).2 hist) := by
  have hnm := names_dk h (by omega)
  have hll : (namesB (runR hist)).length ≤ 1000000 := by have := h.len_le; omega
  have HUL := Lib.hid (show usedB (runR hist) ≤ 97280000 by have := h.used_le; omega)
  have HU := Lib.hid (uniq_runR hist)
  have HCO := Lib.hid hco
  have HW := Lib.hid h
  have hts : trialN.size ≤ 10 := by decide
  have htm := mem_names (uniq_runR hist) trialN.data.toList
  clear h hco
  by_cases htr : getB (runR hist) trialN = none
  · have HTR : Hid (∀ l, runO size (trO (runR hist) ++ l) hist = runO size l hist) := Lib.hid (fun l => by unfold trO; rw [htr]; rfl)
    have HG1 : Hid (∀ s, s ≠ trialN → getB (runR hist) s = getB (runR hist) s) := Lib.hid (fun _ _ => rfl)
    have hno : Hid (false = true ↔ trialN.data.toList ∈ namesB (runR hist)) := Lib.hid (by
      refine ⟨fun h => (by cases h), fun h => ?_⟩
      have h2 := htm.1 ((List.mergeSort_perm _ leB).mem_iff.1 h)
      exact absurd htr h2)
    obtain ⟨h1, hh1⟩ : ∃ h1, hist = h1 := ⟨_, rfl⟩
    have hl1 : h1.length ≤ 190001 := by rw [← hh1]; omega
    have HH1 := Lib.hid hh1
    clear htm htr
    go_enter Tryz.func16, Tryz.ntmps16
    go_wp2_with fail
    refine hnm.mono ?_
    clear hnm
    rintro e w2 ⟨v, rfl, ho2, hb2⟩
    obtain ⟨A2, c2, rfl, _⟩ := own_slice2 ho2
    have hcon := contains_any (namesB (runR hist)) hll trialN _ w2 w.heap.size ho2 false hno.out
    have h3 := (DkTo.refl HW.out).later hb2
    rw [hh1] at h3
    have HO2 := Lib.hid ho2
    have HC2 := Lib.hid hcon
    clear ho2 hb2 hcon hh1
    go_wp2_with fail
    refine HC2.out.mono ?_
    rintro e w3 ⟨rfl, rfl⟩
    obtain ⟨w3, hw3⟩ : ∃ x, x = w2 := ⟨_, rfl⟩
    subst hw3
    have ho3 := HO2.out
    have HTR2 : Hid (∀ l, runO size (trO (runR hist) ++ l) hist = runO size l h1) := Lib.hid (fun l => by rw [HTR.out, HH1.out])
    have HG2 : Hid (∀ s, s ≠ trialN → getB (runR h1) s = getB (runR hist) s) := Lib.hid (fun _ _ => by rw [HH1.out])
    have hct := counted_any (namesB (runR hist)) hll hk _ w3 w.heap.size ho3
    have HO3 := Lib.hid ho3
    have HC3 := Lib.hid hct
    clear ho3 hct
    go_wp2_with fail
    refine HC3.out.mono ?_
    rintro e w4 ⟨a, hbest, rfl, hb4⟩
    have hcn := best_cntOf HU.out hbest
    have hD4 := h3.later hb4
    obtain ⟨F4, Ro4, hDk4, hF4, hR4, hc4⟩ := hD4
    have HD4 := Lib.hid (And.intro hDk4 (And.intro hF4 (And.intro hR4 hc4)))
    have HO4 := Lib.hid ((Chg.below hb4 (fun _ => False)).owns HO3.out (fun _ _ h => h))
    clear hb4 hDk4 hF4 hR4 hc4 h3
    cases a with
    | none =>
      have hse := Lib.hid (settle_none hcn)
      clear hbest hcn
      go_wp2_with fail
      go_ret
      refine ⟨by rw [hse.out]; rfl, ?_⟩
      rw [hse.out]
      have := HTR2.out []
      rw [List.append_nil] at this
      simp only
      rw [this]
      exact ⟨F4, Ro4, HD4.out.1, HD4.out.2.1, HD4.out.2.2.1, HD4.out.2.2.2⟩
    | some n =>
      have hn99 : n < 99 := hbest.1
      have hin := (cnt_mem HU.out n).1 hbest.2.1
      have hsn := cnt_size n
      have hrd := read_dk HD4.out.1 (cntN n) (by omega) (by omega)
      rw [readB_name (name_cnt n hn99), HG2.out (cntN n) (cnt_trial n)] at hrd
      have hul : ((getB (runR hist) (cntN n)).getD []).length ≤ 100000000 := by
        have e1 := getB_used (fs := runR hist) (s := cntN n)
        have e2 := HUL.out
        omega
      have hcnn := fun W => counter_any n hn99 W
      obtain ⟨b, hb⟩ : ∃ b, (getB (runR hist) (cntN n)).getD [] = b := ⟨_, rfl⟩
      rw [hb] at hrd hul
      obtain ⟨sn, hsn2⟩ : ∃ sn, cntN n = sn := ⟨_, rfl⟩
      rw [hsn2] at hrd hcnn hsn
      generalize (readB (runR h1) sn).2 = rc at hrd
      obtain ⟨nI, hnI⟩ : ∃ nI : Int, (n : Int) = nI := ⟨_, rfl⟩
      have hnr : 0 ≤ nI ∧ nI ≤ 98 := by omega
      rw [hnI] at hcnn
      have HHB := Lib.hid (And.intro hb (And.intro hsn2 (And.intro hnI (And.intro hcn hin))))
      clear hb hsn2 hbest hcn hin
      simp only [Option.getD_some, Option.isSome_some]
      rw [hnI]
      clear hnI
      by_cases hz : nI = 0
      · subst hz
        have hse := Lib.hid (settle_old HHB.out.2.2.2.1 (.inl (by have := HHB.out.2.2.1; omega)))
        have hcm := hcnn
        have HCON5 := hcnn
        by_cases hb0 : b.length = 0
        · have hops := Lib.hid (show (if (getB (runR hist) (cntN n)).getD [] = [] then [] else [DOp.wr (cntN n) []]) = [] by rw [HHB.out.1, if_pos (List.length_eq_zero_iff.1 hb0)])
          go_wp2_with (first
            | (go_at_call 32; refine (hcnn _).mono ?_; rintro e w5 ⟨rfl, rfl⟩)
            | (go_at_call 39; refine hrd.mono ?_; rintro e w5 ⟨v5, rfl, ho5, hb5⟩; obtain ⟨A5, c5, rfl, hbc5, hA5⟩ := own_bytes ho5 rfl; have HPR := Lib.hid (plan_read w5 A5 c5 b hA5 hbc5 hul); have HB5 := Lib.hid hb5; have HO5 := Lib.hid ((Chg.below hb5 (fun _ => False)).owns HO4.out (fun _ _ h => h)); have hD5 := Lib.hid (HD4.out.1.below hb5); have HWR5 := Lib.hid (wr0_dk hD5.out sn (by omega) (by omega) hsz); clear ho5 hb5 hA5)
            | (go_at_call 32; refine (hcm _).mono ?_; rintro e w6 ⟨rfl, rfl⟩)
            | (go_at_call 41; refine (HCON5.out _ _ HO5.out).mono ?_; rintro e w6 ⟨rfl, rfl⟩)
            | (go_at_call 31; refine HWR5.out.mono ?_; rintro e w6 ⟨rfl, h6⟩; have HD6 := Lib.hid h6; clear h6)
            | fail)
          go_ret
          refine ⟨by rw [hse.out]; simp only; rw [HHB.out.2.2.1]; (first | done | rfl), ?_⟩
          rw [hse.out]
          simp only
          rw [hops.out, HTR2.out []]
          refine DkTo.step (F1 := F4) (Ro1 := Ro4) (w1 := w4) ?_ HD4.out.2.1 HD4.out.2.2.1 HD4.out.2.2.2
          exact (DkTo.refl HD4.out.1).later HB5.out
        · have hops := Lib.hid (show (if (getB (runR hist) (cntN n)).getD [] = [] then [] else [DOp.wr (cntN n) []]) = [DOp.wr (cntN n) []] by rw [HHB.out.1, if_neg (fun e => hb0 (by rw [e]; rfl))])
          have hb1 : 0 < b.length := by omega
          go_wp2_with (first
            | (go_at_call 32; refine (hcnn _).mono ?_; rintro e w5 ⟨rfl, rfl⟩)
            | (go_at_call 39; refine hrd.mono ?_; rintro e w5 ⟨v5, rfl, ho5, hb5⟩; obtain ⟨A5, c5, rfl, hbc5, hA5⟩ := own_bytes ho5 rfl; have HPR := Lib.hid (plan_read w5 A5 c5 b hA5 hbc5 hul); have HB5 := Lib.hid hb5; have HO5 := Lib.hid ((Chg.below hb5 (fun _ => False)).owns HO4.out (fun _ _ h => h)); have hD5 := Lib.hid (HD4.out.1.below hb5); have HWR5 := Lib.hid (wr0_dk hD5.out sn (by omega) (by omega) hsz); clear ho5 hb5 hA5)
            | (go_at_call 32; refine (hcm _).mono ?_; rintro e w6 ⟨rfl, rfl⟩)
            | (go_at_call 41; refine (HCON5.out _ _ HO5.out).mono ?_; rintro e w6 ⟨rfl, rfl⟩)
            | (go_at_call 31; refine HWR5.out.mono ?_; rintro e w6 ⟨rfl, h6⟩; have HD6 := Lib.hid h6; clear h6)
            | fail)
          go_ret
          refine ⟨by rw [hse.out]; simp only; rw [HHB.out.2.2.1]; (first | done | rfl), ?_⟩
          rw [hse.out]
          simp only
          rw [hops.out, HTR2.out [.wr _ []], HHB.out.2.1]
          refine DkTo.step (F1 := F4) (Ro1 := Ro4) (w1 := w4) ?_ HD4.out.2.1 HD4.out.2.2.1 HD4.out.2.2.2
          exact HD6.out.first HB5.out
      · obtain ⟨m, rfl⟩ : ∃ m, n = m + 1 := ⟨n - 1, by have := HHB.out.2.2.1; omega⟩
        have hmI : (m : Int) = nI - 1 := by have := HHB.out.2.2.1; omega
        have hcm := fun W => counter_any m (by omega) W
        rw [hmI] at hcm
        have HMI := Lib.hid hmI
        have htm2 := cnt_mem HU.out m
        have hsm := cnt_size m
        by_cases hold : getB (runR hist) (cntN m) = none
        · have hse := Lib.hid (settle_old HHB.out.2.2.2.1 (.inr hold))
          have hcon5 : Hid (false = true ↔ (cntN m).data.toList ∈ namesB (runR hist)) := Lib.hid (by
            rw [← cntL_name]
            refine ⟨fun h => (by cases h), fun h => absurd hold (htm2.1 h)⟩)
          obtain ⟨sm, hsm2⟩ : ∃ sm, cntN m = sm := ⟨_, rfl⟩
          have hcon6 := fun W v ho => contains_any (namesB (runR hist)) hll (cntN m) v W w.heap.size ho false hcon5.out
          rw [hsm2] at hcm hcon6 hsm
          have HCON5 := Lib.hid hcon6
          clear htm2 hold hsm2 hmI hcon5 hcon6
          by_cases hb0 : b.length = 0
          · have hops := Lib.hid (show (if (getB (runR hist) (cntN (m + 1))).getD [] = [] then [] else [DOp.wr (cntN (m + 1)) []]) = [] by rw [HHB.out.1, if_pos (List.length_eq_zero_iff.1 hb0)])
            go_wp2_with (first
              | (go_at_call 32; refine (hcnn _).mono ?_; rintro e w5 ⟨rfl, rfl⟩)
              | (go_at_call 39; refine hrd.mono ?_; rintro e w5 ⟨v5, rfl, ho5, hb5⟩; obtain ⟨A5, c5, rfl, hbc5, hA5⟩ := own_bytes ho5 rfl; have HPR := Lib.hid (plan_read w5 A5 c5 b hA5 hbc5 hul); have HB5 := Lib.hid hb5; have HO5 := Lib.hid ((Chg.below hb5 (fun _ => False)).owns HO4.out (fun _ _ h => h)); have hD5 := Lib.hid (HD4.out.1.below hb5); have HWR5 := Lib.hid (wr0_dk hD5.out sn (by omega) (by omega) hsz); clear ho5 hb5 hA5)
              | (go_at_call 32; refine (hcm _).mono ?_; rintro e w6 ⟨rfl, rfl⟩)
              | (go_at_call 41; refine (HCON5.out _ _ HO5.out).mono ?_; rintro e w6 ⟨rfl, rfl⟩)
              | (go_at_call 31; refine HWR5.out.mono ?_; rintro e w6 ⟨rfl, h6⟩; have HD6 := Lib.hid h6; clear h6)
              | fail)
            go_ret
            refine ⟨by rw [hse.out]; simp only; rw [HHB.out.2.2.1]; (first | done | rfl), ?_⟩
            rw [hse.out]
            simp only
            rw [hops.out, HTR2.out []]
            refine DkTo.step (F1 := F4) (Ro1 := Ro4) (w1 := w4) ?_ HD4.out.2.1 HD4.out.2.2.1 HD4.out.2.2.2
            exact (DkTo.refl HD4.out.1).later HB5.out
          · have hops := Lib.hid (show (if (getB (runR hist) (cntN (m + 1))).getD [] = [] then [] else [DOp.wr (cntN (m + 1)) []]) = [DOp.wr (cntN (m + 1)) []] by rw [HHB.out.1, if_neg (fun e => hb0 (by rw [e]; rfl))])
            have hb1 : 0 < b.length := by omega
            go_wp2_with (first
              | (go_at_call 32; refine (hcnn _).mono ?_; rintro e w5 ⟨rfl, rfl⟩)
              | (go_at_call 39; refine hrd.mono ?_; rintro e w5 ⟨v5, rfl, ho5, hb5⟩; obtain ⟨A5, c5, rfl, hbc5, hA5⟩ := own_bytes ho5 rfl; have HPR := Lib.hid (plan_read w5 A5 c5 b hA5 hbc5 hul); have HB5 := Lib.hid hb5; have HO5 := Lib.hid ((Chg.below hb5 (fun _ => False)).owns HO4.out (fun _ _ h => h)); have hD5 := Lib.hid (HD4.out.1.below hb5); have HWR5 := Lib.hid (wr0_dk hD5.out sn (by omega) (by omega) hsz); clear ho5 hb5 hA5)
              | (go_at_call 32; refine (hcm _).mono ?_; rintro e w6 ⟨rfl, rfl⟩)
              | (go_at_call 41; refine (HCON5.out _ _ HO5.out).mono ?_; rintro e w6 ⟨rfl, rfl⟩)
              | (go_at_call 31; refine HWR5.out.mono ?_; rintro e w6 ⟨rfl, h6⟩; have HD6 := Lib.hid h6; clear h6)
              | fail)
            go_ret
            refine ⟨by rw [hse.out]; simp only; rw [HHB.out.2.2.1]; (first | done | rfl), ?_⟩
            rw [hse.out]
            simp only
            rw [hops.out, HTR2.out [.wr _ []], HHB.out.2.1]
            refine DkTo.step (F1 := F4) (Ro1 := Ro4) (w1 := w4) ?_ HD4.out.2.1 HD4.out.2.2.1 HD4.out.2.2.2
            exact HD6.out.first HB5.out
        · have hcon5 : Hid (true = true ↔ (cntN m).data.toList ∈ namesB (runR hist)) := Lib.hid (by
            rw [← cntL_name]
            exact ⟨fun _ => htm2.2 hold, fun _ => rfl⟩)
          have HOLD := Lib.hid hold
          have hrmb := fun (w : World) (h : Dk w F4 Ro4 db size h1) => rm_dk h sn (by omega) (by omega)
          have HRM := Lib.hid hrmb
          obtain ⟨sm, hsm2⟩ : ∃ sm, cntN m = sm := ⟨_, rfl⟩
          have hcon6 := fun W v ho => contains_any (namesB (runR hist)) hll (cntN m) v W w.heap.size ho true hcon5.out
          rw [hsm2] at hcm hcon6 hsm
          have HCON5 := Lib.hid hcon6
          clear htm2 hold hsm2 hmI hrmb hcon5 hcon6
          cases hp : readP b with
          | none =>
            have hse := Lib.hid (settle_part HHB.out.2.2.2.1 HOLD.out (by rw [HHB.out.1]; exact hp))
            have HP := Lib.hid hp
            clear hp
            go_wp2_with (first
              | (go_at_call 32; refine (hcnn _).mono ?_; rintro e w5 ⟨rfl, rfl⟩)
              | (go_at_call 39; refine hrd.mono ?_; rintro e w5 ⟨v5, rfl, ho5, hb5⟩; obtain ⟨A5, c5, rfl, hbc5, hA5⟩ := own_bytes ho5 rfl; have HPR := Lib.hid (plan_read w5 A5 c5 b hA5 hbc5 hul); have HB5 := Lib.hid hb5; have HO5 := Lib.hid ((Chg.below hb5 (fun _ => False)).owns HO4.out (fun _ _ h => h)); have hD5 := Lib.hid (HD4.out.1.below hb5); have HWR5 := Lib.hid (wr0_dk hD5.out sn (by omega) (by omega) hsz); clear ho5 hb5 hA5)
              | (go_at_call 32; refine (hcm _).mono ?_; rintro e w6 ⟨rfl, rfl⟩)
              | (go_at_call 41; refine (HCON5.out _ _ HO5.out).mono ?_; rintro e w6 ⟨rfl, rfl⟩)
              | (go_at_call 31; refine HWR5.out.mono ?_; rintro e w6 ⟨rfl, h6⟩; have HD6 := Lib.hid h6; clear h6)
              | fail)
            have HPR0 : Hid (Calls Tryz.prog 44 #[.slice A5 b.length c5] w5 fun e w' => e = .returned (.tuple #[.agg #[.slice none 0 0, .slice none 0 0], .bool false]) ∧ Below w5.heap.size w5 w') := Lib.hid (by
              refine HPR.out.mono ?_
              rintro e w6 ⟨hb6, ⟨p, rv, wv, hp6, _⟩ | ⟨_, rfl⟩⟩
              · exact absurd (HP.out.symm.trans hp6) (by simp)
              · exact ⟨rfl, hb6⟩)
            refine HPR0.out.mono ?_
            rintro e w6 ⟨rfl, hb6⟩
            · have HR6 := Lib.hid (HRM.out _ ((hD5.out.below hb6).below ((Below.refl _ w6).alloc (Nat.le_refl _) (.cells #[.slice none 0 0, .slice none 0 0] 64))))
              have HB6 := Lib.hid (hb6.trans (((Below.refl w6.heap.size w6).alloc (Nat.le_refl _) (.cells #[.slice none 0 0, .slice none 0 0] 64)).mono hb6.size))
              clear hb6
              go_wp2_with (first
                | (go_at_call 32; refine (hcnn _).mono ?_; rintro e w7 ⟨rfl, rfl⟩)
                | (go_at_call 42; refine HR6.out.mono ?_; rintro e w7 ⟨⟨v7, rfl⟩, h7⟩; have HD7 := Lib.hid h7; clear h7))
              go_ret
              have e9 := HMI.out
              refine ⟨by rw [hse.out]; simp only; rw [e9]; (first | done | rfl), ?_⟩
              rw [hse.out]
              have e8 := HTR2.out [.rm (cntN (m + 1))]
              simp only
              rw [e8, HHB.out.2.1]
              refine DkTo.step (F1 := F4) (Ro1 := Ro4) (w1 := w4) ?_ HD4.out.2.1 HD4.out.2.2.1 HD4.out.2.2.2
              exact (HD7.out.first HB6.out).first HB5.out
          | some p =>
            have hse := Lib.hid (settle_whole HHB.out.2.2.2.1 HOLD.out (by rw [HHB.out.1]; exact hp))
            have hple := readP_le hp
            have HP := Lib.hid (And.intro hp hple)
            have hcop : h1.length + costO p.ops + 12 ≤ 900000 := by
              have e1 := HCO.out
              rw [hse.out] at e1
              simp only [costO_app] at e1
              omega
            clear hp hple
            go_wp2_with (first
              | (go_at_call 32; refine (hcnn _).mono ?_; rintro e w5 ⟨rfl, rfl⟩)
              | (go_at_call 39; refine hrd.mono ?_; rintro e w5 ⟨v5, rfl, ho5, hb5⟩; obtain ⟨A5, c5, rfl, hbc5, hA5⟩ := own_bytes ho5 rfl; have HPR := Lib.hid (plan_read w5 A5 c5 b hA5 hbc5 hul); have HB5 := Lib.hid hb5; have HO5 := Lib.hid ((Chg.below hb5 (fun _ => False)).owns HO4.out (fun _ _ h => h)); have hD5 := Lib.hid (HD4.out.1.below hb5); have HWR5 := Lib.hid (wr0_dk hD5.out sn (by omega) (by omega) hsz); clear ho5 hb5 hA5)
              | (go_at_call 32; refine (hcm _).mono ?_; rintro e w6 ⟨rfl, rfl⟩)
              | (go_at_call 41; refine (HCON5.out _ _ HO5.out).mono ?_; rintro e w6 ⟨rfl, rfl⟩)
              | (go_at_call 31; refine HWR5.out.mono ?_; rintro e w6 ⟨rfl, h6⟩; have HD6 := Lib.hid h6; clear h6)
              | fail)
            have HPR0 : Hid (Calls Tryz.prog 44 #[.slice A5 b.length c5] w5 fun e w' => ∃ rv wv, e = .returned (.tuple #[.agg #[rv, wv], .bool true]) ∧ Below w5.heap.size w5 w' ∧ w'.ownsRow w5.heap.size 9 1 rv p.rm.length (p.rm.map .string) ∧ w'.ownsRow w5.heap.size 50 2 wv p.wr.length (rowFl p.wr) ∧ p.rm.length ≤ 8388608 ∧ p.wr.length ≤ 8388608) := Lib.hid (by
              refine HPR.out.mono ?_
              rintro e w6 ⟨hb6, ⟨p', rv, wv, hp6, rfl, hr6, hv6, hrl6, hwl6⟩ | ⟨hp6, _⟩⟩
              · obtain rfl : p' = p := Option.some.inj (hp6.symm.trans HP.out.1)
                exact ⟨rv, wv, rfl, hb6, hr6, hv6, hrl6, hwl6⟩
              · exact absurd (HP.out.1.symm.trans hp6) (by simp))
            refine HPR0.out.mono ?_
            rintro e w6 ⟨rv, wv, rfl, hb6, hr6, hv6, hrl6, hwl6⟩
            obtain ⟨rA, rc6, rfl, _⟩ := own_slice2 hr6
            obtain ⟨wA, wc6, rfl, _⟩ := own_slice2 hv6
            have hba := (Below.refl w6.heap.size w6).alloc (Nat.le_refl _) (.cells #[.slice rA p.rm.length rc6, .slice wA p.wr.length wc6] 64)
            have hN7 := Holds.new w6 64 #[.slice rA p.rm.length rc6, .slice wA p.wr.length wc6]
            obtain ⟨w7, hw7⟩ : ∃ w7, w6.alloc (.cells #[.slice rA p.rm.length rc6, .slice wA p.wr.length wc6] 64) = w7 := ⟨_, rfl⟩
            rw [hw7] at hba hN7
            have hD7 := (hD5.out.below hb6).below hba
            have hlF := HD4.out.1.ltF
            have hz45 := HB5.out.size
            have hTS : TextsS w7 (fun k => ¬ F4 k) (.slice rA p.rm.length rc6) p.rm := (TextsS.own hr6 rfl).chg (Chg.below hba (fun _ => False)) (fun k hk => ⟨fun e => by have := hlF k e; omega, fun h => h⟩)
            have hFS : FilesS w7 (fun k => ¬ F4 k) (.slice wA p.wr.length wc6) p.wr := (FilesS.own hv6 rfl).chg (Chg.below hba (fun _ => False)) (fun k hk => ⟨fun e => by have := hlF k e; omega, fun h => h⟩)
            have hdo := do_any hD7 p _ _ hTS hFS ⟨by omega, fun s hs => by have := HP.out.2.1 s hs; omega⟩ ⟨by omega, fun f hf => by have := HP.out.2.2 f hf; omega⟩ (by omega) hsz
            have HDO := Lib.hid hdo
            have hcost8 := runO_cost size p.ops h1
            obtain ⟨h8, hh8⟩ : ∃ h8, runO size p.ops h1 = h8 := ⟨_, rfl⟩
            rw [hh8] at HDO hcost8
            have HH8 := Lib.hid hh8
            have HB7 := Lib.hid (hb6.trans (hba.mono hb6.size))
            obtain ⟨x7, hx7⟩ : ∃ x7, w6.heap.size = x7 := ⟨_, rfl⟩
            rw [hx7] at hN7
            have HN7 := Lib.hid hN7
            have y0 := hN7.cell 0
            have y1 := hN7.cell 1
            simp at y0 y1
            clear hr6 hv6 hba hb6 hN7 hD7 hlF hTS hFS hdo hh8
            go_wp2_with fail
            (try rw [hw7])
            (try rw [hx7])
            clear hw7 hx7
            go_wp2_with (first
              | (go_at_call 34; refine HDO.out.mono ?_; rintro e w8 ⟨rfl, hd8⟩; obtain ⟨F8, Ro8, hD8, hF8, hR8, hc8⟩ := hd8; have HEN := Lib.hid (end_any hD8 m (by omega) (by omega) hsz nI (by have := HMI.out; omega)); have HC8 := Lib.hid (And.intro hF8 (And.intro hR8 hc8)); clear hD8 hF8 hR8 hc8)
              | (go_at_call 29; refine HEN.out.mono ?_; rintro e w9 ⟨rfl, h9⟩; have HD9 := Lib.hid h9; clear h9))
            go_ret
            refine ⟨by rw [hse.out]; simp only; rw [HHB.out.2.2.1]; (first | done | rfl), ?_⟩
            rw [hse.out]
            simp only
            rw [HTR2.out, runO_app, HH8.out]
            refine DkTo.step (F1 := F4) (Ro1 := Ro4) (w1 := w4) ?_ HD4.out.2.1 HD4.out.2.2.1 HD4.out.2.2.2
            exact ((HD9.out.step HC8.out.1 HC8.out.2.1 HC8.out.2.2).first HB7.out).first HB5.out
  · obtain ⟨h1, hh1⟩ : ∃ h1, hist ++ DOp.raws size (runR hist) (.rm trialN) = h1 := ⟨_, rfl⟩
    have hl1 : h1.length ≤ 190001 := by
      have := raws_cost size (runR hist) (.rm trialN)
      have e1 : (DOp.rm trialN).cost = 1 := rfl
      rw [← hh1, List.length_append]; omega
    have HTR2 : Hid (∀ l, runO size (trO (runR hist) ++ l) hist = runO size l h1) := Lib.hid (fun l => by
      unfold trO
      rw [if_pos (by cases hg : getB (runR hist) trialN with | none => exact absurd hg htr | some _ => rfl), runO_app, ← hh1]
      rfl)
    have HG2 : Hid (∀ s, s ≠ trialN → getB (runR h1) s = getB (runR hist) s) := Lib.hid (fun s hs => by rw [← hh1]; exact (run_rm size hist name_trial).2 s hs)
    have hyes : Hid (true = true ↔ trialN.data.toList ∈ namesB (runR hist)) := Lib.hid ⟨fun _ => (List.mergeSort_perm _ leB).mem_iff.2 (htm.2 htr), fun _ => rfl⟩
    have hcon0 := fun W v ho => contains_any (namesB (runR hist)) hll trialN v W w.heap.size ho true hyes.out
    have HCON0 := Lib.hid hcon0
    have hrm0 := fun (w : World) (h : Dk w F Ro db size hist) => rm_dk h trialN (by omega) (by omega)
    rw [hh1] at hrm0
    have HRM0 := Lib.hid hrm0
    clear htm htr hh1 hyes hcon0 hrm0
    go_enter Tryz.func16, Tryz.ntmps16
    go_wp2_with fail
    refine hnm.mono ?_
    clear hnm
    rintro e w2 ⟨v, rfl, ho2, hb2⟩
    obtain ⟨A2, c2, rfl, _⟩ := own_slice2 ho2
    have HC2 := Lib.hid (HCON0.out _ _ ho2)
    have HRM2 := Lib.hid (HRM0.out _ (HW.out.below hb2))
    have HO2 := Lib.hid ho2
    have HB2 := Lib.hid hb2
    clear ho2 hb2
    go_wp2_with fail
    refine HC2.out.mono ?_
    rintro e w3 ⟨rfl, rfl⟩
    go_wp2_with fail
    refine HRM2.out.mono ?_
    rintro e w3 ⟨⟨v3, rfl⟩, hd3⟩
    have hlF := HW.out.ltF
    have ho3 := hd3.chg.owns HO2.out (fun k hk hf => by have := hlF k hf; have := (HO2.out.lt k hk).1; omega)
    have h3 := hd3.first HB2.out
    clear hd3 hlF
    have hct := counted_any (namesB (runR hist)) hll hk _ w3 w.heap.size ho3
    have HO3 := Lib.hid ho3
    have HC3 := Lib.hid hct
    clear ho3 hct
    go_wp2_with fail
    refine HC3.out.mono ?_
    rintro e w4 ⟨a, hbest, rfl, hb4⟩
    have hcn := best_cntOf HU.out hbest
    have hD4 := h3.later hb4
    obtain ⟨F4, Ro4, hDk4, hF4, hR4, hc4⟩ := hD4
    have HD4 := Lib.hid (And.intro hDk4 (And.intro hF4 (And.intro hR4 hc4)))
    have HO4 := Lib.hid ((Chg.below hb4 (fun _ => False)).owns HO3.out (fun _ _ h => h))
    clear hb4 hDk4 hF4 hR4 hc4 h3
    cases a with
    | none =>
      have hse := Lib.hid (settle_none hcn)
      clear hbest hcn
      go_wp2_with fail
      go_ret
      refine ⟨by rw [hse.out]; rfl, ?_⟩
      rw [hse.out]
      have := HTR2.out []
      rw [List.append_nil] at this
      simp only
      rw [this]
      exact ⟨F4, Ro4, HD4.out.1, HD4.out.2.1, HD4.out.2.2.1, HD4.out.2.2.2⟩
    | some n =>
      have hn99 : n < 99 := hbest.1
      have hin := (cnt_mem HU.out n).1 hbest.2.1
      have hsn := cnt_size n
      have hrd := read_dk HD4.out.1 (cntN n) (by omega) (by omega)
      rw [readB_name (name_cnt n hn99), HG2.out (cntN n) (cnt_trial n)] at hrd
      have hul : ((getB (runR hist) (cntN n)).getD []).length ≤ 100000000 := by
        have e1 := getB_used (fs := runR hist) (s := cntN n)
        have e2 := HUL.out
        omega
      have hcnn := fun W => counter_any n hn99 W
      obtain ⟨b, hb⟩ : ∃ b, (getB (runR hist) (cntN n)).getD [] = b := ⟨_, rfl⟩
      rw [hb] at hrd hul
      obtain ⟨sn, hsn2⟩ : ∃ sn, cntN n = sn := ⟨_, rfl⟩
      rw [hsn2] at hrd hcnn hsn
      generalize (readB (runR h1) sn).2 = rc at hrd
      obtain ⟨nI, hnI⟩ : ∃ nI : Int, (n : Int) = nI := ⟨_, rfl⟩
      have hnr : 0 ≤ nI ∧ nI ≤ 98 := by omega
      rw [hnI] at hcnn
      have HHB := Lib.hid (And.intro hb (And.intro hsn2 (And.intro hnI (And.intro hcn hin))))
      clear hb hsn2 hbest hcn hin
      simp only [Option.getD_some, Option.isSome_some]
      rw [hnI]
      clear hnI
      by_cases hz : nI = 0
      · subst hz
        have hse := Lib.hid (settle_old HHB.out.2.2.2.1 (.inl (by have := HHB.out.2.2.1; omega)))
        have hcm := hcnn
        have HCON5 := hcnn
        by_cases hb0 : b.length = 0
        · have hops := Lib.hid (show (if (getB (runR hist) (cntN n)).getD [] = [] then [] else [DOp.wr (cntN n) []]) = [] by rw [HHB.out.1, if_pos (List.length_eq_zero_iff.1 hb0)])
          go_wp2_with (first
            | (go_at_call 32; refine (hcnn _).mono ?_; rintro e w5 ⟨rfl, rfl⟩)
            | (go_at_call 39; refine hrd.mono ?_; rintro e w5 ⟨v5, rfl, ho5, hb5⟩; obtain ⟨A5, c5, rfl, hbc5, hA5⟩ := own_bytes ho5 rfl; have HPR := Lib.hid (plan_read w5 A5 c5 b hA5 hbc5 hul); have HB5 := Lib.hid hb5; have HO5 := Lib.hid ((Chg.below hb5 (fun _ => False)).owns HO4.out (fun _ _ h => h)); have hD5 := Lib.hid (HD4.out.1.below hb5); have HWR5 := Lib.hid (wr0_dk hD5.out sn (by omega) (by omega) hsz); clear ho5 hb5 hA5)
            | (go_at_call 32; refine (hcm _).mono ?_; rintro e w6 ⟨rfl, rfl⟩)
            | (go_at_call 41; refine (HCON5.out _ _ HO5.out).mono ?_; rintro e w6 ⟨rfl, rfl⟩)
            | (go_at_call 31; refine HWR5.out.mono ?_; rintro e w6 ⟨rfl, h6⟩; have HD6 := Lib.hid h6; clear h6)
            | fail)
          go_ret
          refine ⟨by rw [hse.out]; simp only; rw [HHB.out.2.2.1]; (first | done | rfl), ?_⟩
          rw [hse.out]
          simp only
          rw [hops.out, HTR2.out []]
          refine DkTo.step (F1 := F4) (Ro1 := Ro4) (w1 := w4) ?_ HD4.out.2.1 HD4.out.2.2.1 HD4.out.2.2.2
          exact (DkTo.refl HD4.out.1).later HB5.out
        · have hops := Lib.hid (show (if (getB (runR hist) (cntN n)).getD [] = [] then [] else [DOp.wr (cntN n) []]) = [DOp.wr (cntN n) []] by rw [HHB.out.1, if_neg (fun e => hb0 (by rw [e]; rfl))])
          have hb1 : 0 < b.length := by omega
          go_wp2_with (first
            | (go_at_call 32; refine (hcnn _).mono ?_; rintro e w5 ⟨rfl, rfl⟩)
            | (go_at_call 39; refine hrd.mono ?_; rintro e w5 ⟨v5, rfl, ho5, hb5⟩; obtain ⟨A5, c5, rfl, hbc5, hA5⟩ := own_bytes ho5 rfl; have HPR := Lib.hid (plan_read w5 A5 c5 b hA5 hbc5 hul); have HB5 := Lib.hid hb5; have HO5 := Lib.hid ((Chg.below hb5 (fun _ => False)).owns HO4.out (fun _ _ h => h)); have hD5 := Lib.hid (HD4.out.1.below hb5); have HWR5 := Lib.hid (wr0_dk hD5.out sn (by omega) (by omega) hsz); clear ho5 hb5 hA5)
            | (go_at_call 32; refine (hcm _).mono ?_; rintro e w6 ⟨rfl, rfl⟩)
            | (go_at_call 41; refine (HCON5.out _ _ HO5.out).mono ?_; rintro e w6 ⟨rfl, rfl⟩)
            | (go_at_call 31; refine HWR5.out.mono ?_; rintro e w6 ⟨rfl, h6⟩; have HD6 := Lib.hid h6; clear h6)
            | fail)
          go_ret
          refine ⟨by rw [hse.out]; simp only; rw [HHB.out.2.2.1]; (first | done | rfl), ?_⟩
          rw [hse.out]
          simp only
          rw [hops.out, HTR2.out [.wr _ []], HHB.out.2.1]
          refine DkTo.step (F1 := F4) (Ro1 := Ro4) (w1 := w4) ?_ HD4.out.2.1 HD4.out.2.2.1 HD4.out.2.2.2
          exact HD6.out.first HB5.out
      · obtain ⟨m, rfl⟩ : ∃ m, n = m + 1 := ⟨n - 1, by have := HHB.out.2.2.1; omega⟩
        have hmI : (m : Int) = nI - 1 := by have := HHB.out.2.2.1; omega
        have hcm := fun W => counter_any m (by omega) W
        rw [hmI] at hcm
        have HMI := Lib.hid hmI
        have htm2 := cnt_mem HU.out m
        have hsm := cnt_size m
        by_cases hold : getB (runR hist) (cntN m) = none
        · have hse := Lib.hid (settle_old HHB.out.2.2.2.1 (.inr hold))
          have hcon5 : Hid (false = true ↔ (cntN m).data.toList ∈ namesB (runR hist)) := Lib.hid (by
            rw [← cntL_name]
            refine ⟨fun h => (by cases h), fun h => absurd hold (htm2.1 h)⟩)
          obtain ⟨sm, hsm2⟩ : ∃ sm, cntN m = sm := ⟨_, rfl⟩
          have hcon6 := fun W v ho => contains_any (namesB (runR hist)) hll (cntN m) v W w.heap.size ho false hcon5.out
          rw [hsm2] at hcm hcon6 hsm
          have HCON5 := Lib.hid hcon6
          clear htm2 hold hsm2 hmI hcon5 hcon6
          by_cases hb0 : b.length = 0
          · have hops := Lib.hid (show (if (getB (runR hist) (cntN (m + 1))).getD [] = [] then [] else [DOp.wr (cntN (m + 1)) []]) = [] by rw [HHB.out.1, if_pos (List.length_eq_zero_iff.1 hb0)])
            go_wp2_with (first
              | (go_at_call 32; refine (hcnn _).mono ?_; rintro e w5 ⟨rfl, rfl⟩)
              | (go_at_call 39; refine hrd.mono ?_; rintro e w5 ⟨v5, rfl, ho5, hb5⟩; obtain ⟨A5, c5, rfl, hbc5, hA5⟩ := own_bytes ho5 rfl; have HPR := Lib.hid (plan_read w5 A5 c5 b hA5 hbc5 hul); have HB5 := Lib.hid hb5; have HO5 := Lib.hid ((Chg.below hb5 (fun _ => False)).owns HO4.out (fun _ _ h => h)); have hD5 := Lib.hid (HD4.out.1.below hb5); have HWR5 := Lib.hid (wr0_dk hD5.out sn (by omega) (by omega) hsz); clear ho5 hb5 hA5)
              | (go_at_call 32; refine (hcm _).mono ?_; rintro e w6 ⟨rfl, rfl⟩)
              | (go_at_call 41; refine (HCON5.out _ _ HO5.out).mono ?_; rintro e w6 ⟨rfl, rfl⟩)
              | (go_at_call 31; refine HWR5.out.mono ?_; rintro e w6 ⟨rfl, h6⟩; have HD6 := Lib.hid h6; clear h6)
              | fail)
            go_ret
            refine ⟨by rw [hse.out]; simp only; rw [HHB.out.2.2.1]; (first | done | rfl), ?_⟩
            rw [hse.out]
            simp only
            rw [hops.out, HTR2.out []]
            refine DkTo.step (F1 := F4) (Ro1 := Ro4) (w1 := w4) ?_ HD4.out.2.1 HD4.out.2.2.1 HD4.out.2.2.2
            exact (DkTo.refl HD4.out.1).later HB5.out
          · have hops := Lib.hid (show (if (getB (runR hist) (cntN (m + 1))).getD [] = [] then [] else [DOp.wr (cntN (m + 1)) []]) = [DOp.wr (cntN (m + 1)) []] by rw [HHB.out.1, if_neg (fun e => hb0 (by rw [e]; rfl))])
            have hb1 : 0 < b.length := by omega
            go_wp2_with (first
              | (go_at_call 32; refine (hcnn _).mono ?_; rintro e w5 ⟨rfl, rfl⟩)
              | (go_at_call 39; refine hrd.mono ?_; rintro e w5 ⟨v5, rfl, ho5, hb5⟩; obtain ⟨A5, c5, rfl, hbc5, hA5⟩ := own_bytes ho5 rfl; have HPR := Lib.hid (plan_read w5 A5 c5 b hA5 hbc5 hul); have HB5 := Lib.hid hb5; have HO5 := Lib.hid ((Chg.below hb5 (fun _ => False)).owns HO4.out (fun _ _ h => h)); have hD5 := Lib.hid (HD4.out.1.below hb5); have HWR5 := Lib.hid (wr0_dk hD5.out sn (by omega) (by omega) hsz); clear ho5 hb5 hA5)
              | (go_at_call 32; refine (hcm _).mono ?_; rintro e w6 ⟨rfl, rfl⟩)
              | (go_at_call 41; refine (HCON5.out _ _ HO5.out).mono ?_; rintro e w6 ⟨rfl, rfl⟩)
              | (go_at_call 31; refine HWR5.out.mono ?_; rintro e w6 ⟨rfl, h6⟩; have HD6 := Lib.hid h6; clear h6)
              | fail)
            go_ret
            refine ⟨by rw [hse.out]; simp only; rw [HHB.out.2.2.1]; (first | done | rfl), ?_⟩
            rw [hse.out]
            simp only
            rw [hops.out, HTR2.out [.wr _ []], HHB.out.2.1]
            refine DkTo.step (F1 := F4) (Ro1 := Ro4) (w1 := w4) ?_ HD4.out.2.1 HD4.out.2.2.1 HD4.out.2.2.2
            exact HD6.out.first HB5.out
        · have hcon5 : Hid (true = true ↔ (cntN m).data.toList ∈ namesB (runR hist)) := Lib.hid (by
            rw [← cntL_name]
            exact ⟨fun _ => htm2.2 hold, fun _ => rfl⟩)
          have HOLD := Lib.hid hold
          have hrmb := fun (w : World) (h : Dk w F4 Ro4 db size h1) => rm_dk h sn (by omega) (by omega)
          have HRM := Lib.hid hrmb
          obtain ⟨sm, hsm2⟩ : ∃ sm, cntN m = sm := ⟨_, rfl⟩
          have hcon6 := fun W v ho => contains_any (namesB (runR hist)) hll (cntN m) v W w.heap.size ho true hcon5.out
          rw [hsm2] at hcm hcon6 hsm
          have HCON5 := Lib.hid hcon6
          clear htm2 hold hsm2 hmI hrmb hcon5 hcon6
          cases hp : readP b with
          | none =>
            have hse := Lib.hid (settle_part HHB.out.2.2.2.1 HOLD.out (by rw [HHB.out.1]; exact hp))
            have HP := Lib.hid hp
            clear hp
            go_wp2_with (first
              | (go_at_call 32; refine (hcnn _).mono ?_; rintro e w5 ⟨rfl, rfl⟩)
              | (go_at_call 39; refine hrd.mono ?_; rintro e w5 ⟨v5, rfl, ho5, hb5⟩; obtain ⟨A5, c5, rfl, hbc5, hA5⟩ := own_bytes ho5 rfl; have HPR := Lib.hid (plan_read w5 A5 c5 b hA5 hbc5 hul); have HB5 := Lib.hid hb5; have HO5 := Lib.hid ((Chg.below hb5 (fun _ => False)).owns HO4.out (fun _ _ h => h)); have hD5 := Lib.hid (HD4.out.1.below hb5); have HWR5 := Lib.hid (wr0_dk hD5.out sn (by omega) (by omega) hsz); clear ho5 hb5 hA5)
              | (go_at_call 32; refine (hcm _).mono ?_; rintro e w6 ⟨rfl, rfl⟩)
              | (go_at_call 41; refine (HCON5.out _ _ HO5.out).mono ?_; rintro e w6 ⟨rfl, rfl⟩)
              | (go_at_call 31; refine HWR5.out.mono ?_; rintro e w6 ⟨rfl, h6⟩; have HD6 := Lib.hid h6; clear h6)
              | fail)
            have HPR0 : Hid (Calls Tryz.prog 44 #[.slice A5 b.length c5] w5 fun e w' => e = .returned (.tuple #[.agg #[.slice none 0 0, .slice none 0 0], .bool false]) ∧ Below w5.heap.size w5 w') := Lib.hid (by
              refine HPR.out.mono ?_
              rintro e w6 ⟨hb6, ⟨p, rv, wv, hp6, _⟩ | ⟨_, rfl⟩⟩
              · exact absurd (HP.out.symm.trans hp6) (by simp)
              · exact ⟨rfl, hb6⟩)
            refine HPR0.out.mono ?_
            rintro e w6 ⟨rfl, hb6⟩
            · have HR6 := Lib.hid (HRM.out _ ((hD5.out.below hb6).below ((Below.refl _ w6).alloc (Nat.le_refl _) (.cells #[.slice none 0 0, .slice none 0 0] 64))))
              have HB6 := Lib.hid (hb6.trans (((Below.refl w6.heap.size w6).alloc (Nat.le_refl _) (.cells #[.slice none 0 0, .slice none 0 0] 64)).mono hb6.size))
              clear hb6
              go_wp2_with (first
                | (go_at_call 32; refine (hcnn _).mono ?_; rintro e w7 ⟨rfl, rfl⟩)
                | (go_at_call 42; refine HR6.out.mono ?_; rintro e w7 ⟨⟨v7, rfl⟩, h7⟩; have HD7 := Lib.hid h7; clear h7))
              go_ret
              have e9 := HMI.out
              refine ⟨by rw [hse.out]; simp only; rw [e9]; (first | done | rfl), ?_⟩
              rw [hse.out]
              have e8 := HTR2.out [.rm (cntN (m + 1))]
              simp only
              rw [e8, HHB.out.2.1]
              refine DkTo.step (F1 := F4) (Ro1 := Ro4) (w1 := w4) ?_ HD4.out.2.1 HD4.out.2.2.1 HD4.out.2.2.2
              exact (HD7.out.first HB6.out).first HB5.out
          | some p =>
            have hse := Lib.hid (settle_whole HHB.out.2.2.2.1 HOLD.out (by rw [HHB.out.1]; exact hp))
            have hple := readP_le hp
            have HP := Lib.hid (And.intro hp hple)
            have hcop : h1.length + costO p.ops + 12 ≤ 900000 := by
              have e1 := HCO.out
              rw [hse.out] at e1
              simp only [costO_app] at e1
              omega
            clear hp hple
            go_wp2_with (first
              | (go_at_call 32; refine (hcnn _).mono ?_; rintro e w5 ⟨rfl, rfl⟩)
              | (go_at_call 39; refine hrd.mono ?_; rintro e w5 ⟨v5, rfl, ho5, hb5⟩; obtain ⟨A5, c5, rfl, hbc5, hA5⟩ := own_bytes ho5 rfl; have HPR := Lib.hid (plan_read w5 A5 c5 b hA5 hbc5 hul); have HB5 := Lib.hid hb5; have HO5 := Lib.hid ((Chg.below hb5 (fun _ => False)).owns HO4.out (fun _ _ h => h)); have hD5 := Lib.hid (HD4.out.1.below hb5); have HWR5 := Lib.hid (wr0_dk hD5.out sn (by omega) (by omega) hsz); clear ho5 hb5 hA5)
              | (go_at_call 32; refine (hcm _).mono ?_; rintro e w6 ⟨rfl, rfl⟩)
              | (go_at_call 41; refine (HCON5.out _ _ HO5.out).mono ?_; rintro e w6 ⟨rfl, rfl⟩)
              | (go_at_call 31; refine HWR5.out.mono ?_; rintro e w6 ⟨rfl, h6⟩; have HD6 := Lib.hid h6; clear h6)
              | fail)
            have HPR0 : Hid (Calls Tryz.prog 44 #[.slice A5 b.length c5] w5 fun e w' => ∃ rv wv, e = .returned (.tuple #[.agg #[rv, wv], .bool true]) ∧ Below w5.heap.size w5 w' ∧ w'.ownsRow w5.heap.size 9 1 rv p.rm.length (p.rm.map .string) ∧ w'.ownsRow w5.heap.size 50 2 wv p.wr.length (rowFl p.wr) ∧ p.rm.length ≤ 8388608 ∧ p.wr.length ≤ 8388608) := Lib.hid (by
              refine HPR.out.mono ?_
              rintro e w6 ⟨hb6, ⟨p', rv, wv, hp6, rfl, hr6, hv6, hrl6, hwl6⟩ | ⟨hp6, _⟩⟩
              · obtain rfl : p' = p := Option.some.inj (hp6.symm.trans HP.out.1)
                exact ⟨rv, wv, rfl, hb6, hr6, hv6, hrl6, hwl6⟩
              · exact absurd (HP.out.1.symm.trans hp6) (by simp))
            refine HPR0.out.mono ?_
            rintro e w6 ⟨rv, wv, rfl, hb6, hr6, hv6, hrl6, hwl6⟩
            obtain ⟨rA, rc6, rfl, _⟩ := own_slice2 hr6
            obtain ⟨wA, wc6, rfl, _⟩ := own_slice2 hv6
            have hba := (Below.refl w6.heap.size w6).alloc (Nat.le_refl _) (.cells #[.slice rA p.rm.length rc6, .slice wA p.wr.length wc6] 64)
            have hN7 := Holds.new w6 64 #[.slice rA p.rm.length rc6, .slice wA p.wr.length wc6]
            obtain ⟨w7, hw7⟩ : ∃ w7, w6.alloc (.cells #[.slice rA p.rm.length rc6, .slice wA p.wr.length wc6] 64) = w7 := ⟨_, rfl⟩
            rw [hw7] at hba hN7
            have hD7 := (hD5.out.below hb6).below hba
            have hlF := HD4.out.1.ltF
            have hz45 := HB5.out.size
            have hTS : TextsS w7 (fun k => ¬ F4 k) (.slice rA p.rm.length rc6) p.rm := (TextsS.own hr6 rfl).chg (Chg.below hba (fun _ => False)) (fun k hk => ⟨fun e => by have := hlF k e; omega, fun h => h⟩)
            have hFS : FilesS w7 (fun k => ¬ F4 k) (.slice wA p.wr.length wc6) p.wr := (FilesS.own hv6 rfl).chg (Chg.below hba (fun _ => False)) (fun k hk => ⟨fun e => by have := hlF k e; omega, fun h => h⟩)
            have hdo := do_any hD7 p _ _ hTS hFS ⟨by omega, fun s hs => by have := HP.out.2.1 s hs; omega⟩ ⟨by omega, fun f hf => by have := HP.out.2.2 f hf; omega⟩ (by omega) hsz
            have HDO := Lib.hid hdo
            have hcost8 := runO_cost size p.ops h1
            obtain ⟨h8, hh8⟩ : ∃ h8, runO size p.ops h1 = h8 := ⟨_, rfl⟩
            rw [hh8] at HDO hcost8
            have HH8 := Lib.hid hh8
            have HB7 := Lib.hid (hb6.trans (hba.mono hb6.size))
            obtain ⟨x7, hx7⟩ : ∃ x7, w6.heap.size = x7 := ⟨_, rfl⟩
            rw [hx7] at hN7
            have HN7 := Lib.hid hN7
            have y0 := hN7.cell 0
            have y1 := hN7.cell 1
            simp at y0 y1
            clear hr6 hv6 hba hb6 hN7 hD7 hlF hTS hFS hdo hh8
            go_wp2_with fail
            (try rw [hw7])
            (try rw [hx7])
            clear hw7 hx7
            go_wp2_with (first
              | (go_at_call 34; refine HDO.out.mono ?_; rintro e w8 ⟨rfl, hd8⟩; obtain ⟨F8, Ro8, hD8, hF8, hR8, hc8⟩ := hd8; have HEN := Lib.hid (end_any hD8 m (by omega) (by omega) hsz nI (by have := HMI.out; omega)); have HC8 := Lib.hid (And.intro hF8 (And.intro hR8 hc8)); clear hD8 hF8 hR8 hc8)
              | (go_at_call 29; refine HEN.out.mono ?_; rintro e w9 ⟨rfl, h9⟩; have HD9 := Lib.hid h9; clear h9))
            go_ret
            refine ⟨by rw [hse.out]; simp only; rw [HHB.out.2.2.1]; (first | done | rfl), ?_⟩
            rw [hse.out]
            simp only
            rw [HTR2.out, runO_app, HH8.out]
            refine DkTo.step (F1 := F4) (Ro1 := Ro4) (w1 := w4) ?_ HD4.out.2.1 HD4.out.2.2.1 HD4.out.2.2.2
            exact ((HD9.out.step HC8.out.1 HC8.out.2.1 HC8.out.2.2).first HB7.out).first HB5.out
set_option maxRecDepth 100000 in
theorem open_any {w : World} {F Ro : Nat → Prop} {db size : Nat} {hist : List Raw} (h : Dk w F Ro db size hist) (hk : ∀ x ∈ namesB (runR hist), NameK x) (hh : hist.length ≤ 190000) (hco : costO (settleM (runR hist)).2 ≤ 500000) (hsz : size ≤ 8388608) :
    Calls Tryz.prog 7 #[.pointer (some ⟨db, 0, none⟩)] w fun e w' => e = .returned (.tuple #[.int .u64 ((settleM (runR hist)).1 : Int), .int .i64 0]) ∧ DkTo w w' F Ro db size (runO size (settleM (runR hist)).2 hist) := by
  have ht := there_j h (by omega)
  have hs := fun (w' : World) (hb : Below w.heap.size w w') => settle_any (h.below hb) hk hh hco hsz
  have HS := Lib.hid hs
  clear h hk hco hs
  go_enter Tryz.func7, Tryz.ntmps7
  go_wp2_with fail
  refine ht.mono ?_
  clear ht
  rintro e w2 ⟨rfl, hb2⟩
  have HB2 := Lib.hid hb2
  have HS2 := Lib.hid (HS.out w2 hb2)
  clear hb2
  go_wp2_with fail
  refine HS2.out.mono ?_
  rintro e w3 ⟨rfl, h3⟩
  have HD := Lib.hid (h3.first HB2.out)
  clear h3
  go_wp2_with fail
  go_ret2
  exact ⟨rfl, HD.out⟩
end Go.Proofs.YtmldpehkacemfaaGreatDoor
namespace Go.Proofs.YtmldpehkacemfaaGreatDoor
open Go.RowKit Go.Bd Go.Maps Go.WideMaps
def IMap (w : World) (bm N : Nat) (f : ByteArray → Option Int) : Prop := ∃ es, FsMap w Tryz.prog 9 bm es ∧ Uniq es ∧ es.length = N ∧ ∀ s, (findF es s).map (·.v) = (f s).map (Value.int .i64)
theorem imap_under : Tryz.prog.underlying 58 = some (.map 9 3) := by kernel_rfl
theorem zero_int (w : World) : (zeroValue 3).run Tryz.prog w = .ok (.int .i64 0) w := by kernel_rfl
section
variable {w w' : World} {bm N : Nat} {f : ByteArray → Option Int}
theorem IMap.lt (h : IMap w bm N f) : bm < w.heap.size := by
  obtain ⟨es, h1, _⟩ := h
  exact h1.lt
theorem IMap.chg {S : Nat → Prop} (h : IMap w bm N f) (hc : Chg w w' S) (hS : ¬ S bm) : IMap w' bm N f := by
  obtain ⟨es, h1, h2, h3, h4⟩ := h
  exact ⟨es, h1.chg hc hS, h2, h3, h4⟩
theorem IMap.below (h : IMap w bm N f) (hb : Below w.heap.size w w') : IMap w' bm N f := h.chg (Chg.below hb (fun _ => False)) (fun h => h)
theorem IMap.new (w : World) : IMap (w.alloc (.map #[] 0)) w.heap.size 0 (fun _ => none) := ⟨[], FsMap.new w _ _, List.Pairwise.nil, rfl, fun s => rfl⟩
theorem imap_val {es : List Fe} {f : ByteArray → Option Int} {s : ByteArray} (e2 : (findF es s).map (·.v) = (f s).map (Value.int .i64)) {v : Value} {ps : List MemPlace} (hv : heldR v = some ((match findF es s with | some e => DataW.held e.v | none => .held (.int .i64 0)), ps)) : v = .int .i64 ((f s).getD 0) := by
  simp only [heldR, Option.some.injEq, Prod.mk.injEq] at hv
  cases hf : findF es s with
  | none =>
    rw [hf] at hv e2
    simp only [DataW.held.injEq] at hv
    cases hg : f s with
    | none => exact hv.1
    | some x => rw [hg] at e2; cases e2
  | some e =>
    rw [hf] at hv e2
    simp only [DataW.held.injEq] at hv
    cases hg : f s with
    | none => rw [hg] at e2; cases e2
    | some x =>
      rw [hg] at e2
      simp only [Option.map_some, Option.some.injEq] at e2
      rw [hv.1, e2]; rfl
theorem imap_some {es : List Fe} {f : ByteArray → Option Int} {s : ByteArray} (e2 : (findF es s).map (·.v) = (f s).map (Value.int .i64)) : (findF es s).isSome = (f s).isSome := by
  cases hf : findF es s with
  | none =>
    rw [hf] at e2
    cases hg : f s with
    | none => rfl
    | some x => rw [hg] at e2; cases e2
  | some e =>
    rw [hf] at e2
    cases hg : f s with
    | none => rw [hg] at e2; cases e2
    | some x => rfl
theorem IMap.look (h : IMap w bm N f) {s : ByteArray} (hs : s.size ≤ maxLen) : (Instr.lookup 58 (.map (some bm)) (.string s) false).run Tryz.prog w = .ok (.int .i64 ((f s).getD 0)) w := by
  obtain ⟨es, ⟨D, h1, _, _, h4⟩, _, _, h5⟩ := h
  obtain ⟨v, ps, hrun, hv⟩ := h1.lookup (string_keyed str_key) imap_under (zero_int w) rfl (keyOf_string_mk str_key hs)
  rw [hrun]
  have e1 := h4 s (.held (.int .i64 0))
  unfold nameL at e1
  rw [e1] at hv
  rw [imap_val (h5 s) hv]
theorem IMap.look_ok (h : IMap w bm N f) {s : ByteArray} (hs : s.size ≤ maxLen) : (Instr.lookup 58 (.map (some bm)) (.string s) true).run Tryz.prog w = .ok (.tuple #[.int .i64 ((f s).getD 0), .bool (f s).isSome]) w := by
  obtain ⟨es, ⟨D, h1, _, h3, h4⟩, _, _, h5⟩ := h
  obtain ⟨v, ps, hrun, hv⟩ := h1.look_ok (string_keyed str_key) imap_under (zero_int w) rfl (keyOf_string_mk str_key hs)
  rw [hrun]
  have e1 := h4 s (.held (.int .i64 0))
  have e3 := h3 s
  unfold nameL at e1 e3
  rw [e1] at hv
  rw [e3, imap_val (h5 s) hv, imap_some (h5 s)]
theorem IMap.len (h : IMap w bm N f) (ty : TypeId) : (Builtin.len_ #[58] ty #[.map (some bm)]).run Tryz.prog w = .ok (.int .i64 N) w := by
  obtain ⟨es, h1, _, h3, _⟩ := h
  rw [h1.len imap_under, h3]
theorem IMap.store (h : IMap w bm N f) (hn : N < maxLen) {s : ByteArray} (hs : s.size ≤ maxLen) (x : Int) :
    ∃ w', (Instr.mapUpdate 58 (.map (some bm)) (.string s) (.int .i64 x)).run Tryz.prog w = .ok () w' ∧ IMap w' bm (if (f s).isSome then N else N + 1) (fun t => if t = s then some x else f t) ∧ Chg w w' (fun b => b = bm) ∧ w'.heap.size = w.heap.size := by
  obtain ⟨es, h1, h2, h3, h5⟩ := h
  obtain ⟨w', hr, h6, h7, h8⟩ := h1.store (T := 58) h2 str_key imap_under (by omega) ⟨s, .int .i64 x, []⟩ hs
  refine ⟨w', hr, ⟨_, h6, h2.put _, ?_, fun t => ?_⟩, h7, h8⟩
  · rw [put_length h2, h3]
    have e4 := imap_some (h5 s)
    simp only [e4]
    split <;> simp
  · by_cases ht : t = s
    · subst ht
      have := findF_put_same es ⟨t, .int .i64 x, []⟩
      simp only at this
      rw [this]
      dsimp only
      rw [if_pos rfl]
      rfl
    · rw [findF_put_other es ⟨s, .int .i64 x, []⟩ ht]
      dsimp only
      rw [if_neg ht]
      exact h5 t
end
def sizeF (fs : Fs) (s : ByteArray) : Option Int := (getB fs s).map fun b => (b.length : Int)
theorem names_nodup2 {fs : Fs} (hu : UniqB fs) : (namesB fs).Nodup := by
  unfold namesB
  exact (List.mergeSort_perm _ leB).nodup_iff.2 (names_nd hu)
theorem names_mem {fs : Fs} (hu : UniqB fs) (x : List UInt8) : x ∈ namesB fs ↔ getB fs ⟨⟨x⟩⟩ ≠ none := by
  unfold namesB
  rw [(List.mergeSort_perm _ leB).mem_iff]
  exact mem_names hu x
theorem names_name {w : World} {F Ro : Nat → Prop} {db size : Nat} {hist : List Raw} (h : Dk w F Ro db size hist) : ∀ f ∈ runR hist, f.1.size ≤ 80 := fun f hf => by
  obtain ⟨bm, es, hv, fs, h⟩ := h
  have h1 := h.names
  rw [← h.says] at hf
  unfold fsOf at hf
  obtain ⟨e, he, rfl⟩ := List.mem_map.1 hf
  exact h1 e he
set_option maxRecDepth 100000 in
set_option maxHeartbeats 2000000 in
theorem sizes_any {w : World} {F Ro : Nat → Prop} {db size : Nat} {hist : List Raw} (h : Dk w F Ro db size hist) (hn : ∀ s, getB (runR hist) s ≠ none → nameB s = true) (hh : hist.length ≤ 800000) :
    Calls Tryz.prog 19 #[.pointer (some ⟨db, 0, none⟩)] w fun e w' => ∃ bm, e = .returned (.map (some bm)) ∧ w.heap.size ≤ bm ∧ IMap w' bm (namesB (runR hist)).length (sizeF (runR hist)) ∧ Below w.heap.size w w' := by
  have hmm := @run_makeMap Tryz.prog
  have hu := uniq_runR hist
  have hll : (namesB (runR hist)).length ≤ 900000 := by have := h.len_le; omega
  have hul := h.used_le
  have hnl := names_name h
  obtain ⟨W1, hW1⟩ : ∃ W1, w.alloc (.map #[] 0) = W1 := ⟨_, rfl⟩
  have hI := IMap.new w
  have hb1 : Below w.heap.size w W1 := by rw [← hW1]; exact (Below.refl _ _).alloc (Nat.le_refl _) _
  rw [hW1] at hI
  have hnm := names_dk (h.below hb1) (by omega)
  obtain ⟨bm, hbm⟩ : ∃ bm, w.heap.size = bm := ⟨_, rfl⟩
  have hbm1 : bm < W1.heap.size := by have := hI.lt; omega
  rw [hbm] at hI
  have HW := Lib.hid (And.intro h (And.intro hb1 hbm))
  have HM := Lib.hid (And.intro (names_nodup2 hu) (And.intro (fun x => names_mem hu x) hnl))
  have HI := Lib.hid hI
  have HN := Lib.hid hn
  obtain ⟨L, hL⟩ : ∃ L, namesB (runR hist) = L := ⟨_, rfl⟩
  rw [hL] at hnm HM hll
  have HL := Lib.hid hL
  have HUL := Lib.hid hul
  rw [hbm]
  have hbmw : w.heap.size ≤ bm := by omega
  rw [hL]
  clear h hb1 hu hI hn hL hul hnl
  go_enter Tryz.func19, Tryz.ntmps19
  go_wp2_with fail
  (try rw [hW1])
  (try rw [hbm])
  clear hW1 hmm hbm
  refine hnm.mono ?_
  clear hnm
  rintro e w2 ⟨v, rfl, ho2, hb2⟩
  obtain ⟨A, c, rfl, hc, hcells⟩ := own_at ho2
  have HC := Lib.hid hcells
  have HB2 := Lib.hid hb2
  have hz2 := hb2.size
  clear ho2 hcells hb2
  obtain ⟨nl, hnl⟩ : ∃ nl, L.length = nl := ⟨_, rfl⟩
  rw [hnl] at hll hc
  rw [hnl]
  have HNL := Lib.hid hnl
  clear hnl
  go_wp2_with fail
  go_loopg [12] nl (fun q iv wr => ∃ k : Nat, k + q = nl ∧ iv = .int .i64 (k : Int) ∧ Hid (IMap wr bm k (fun s => if s.data.toList ∈ L.take k then sizeF (runR hist) s else none) ∧ Chg w2 wr (fun b => b = bm)))
  case atStart => exact ⟨0, by omega, rfl, Lib.hid ⟨by
    have e : (fun s : ByteArray => if s.data.toList ∈ L.take 0 then sizeF (runR hist) s else none) = fun _ => none := by funext s; simp
    rw [e]
    exact HI.out.below (HB2.out), Chg.refl _ _⟩⟩
  case round =>
    obtain ⟨k, hk, rfl, HR⟩ := hrel
    by_cases hlt : k < nl
    · obtain ⟨x, hx⟩ : ∃ x, L[k]? = some x := ⟨_, List.getElem?_eq_getElem (by rw [HNL.out]; exact hlt)⟩
      obtain ⟨g, rfl, hgb, hgl, q0⟩ := HC.out k (Go.Proofs.encStr x) (by rw [List.getElem?_map, hx]; rfl)
      have q1 := HR.out.2.cell (p := ⟨g, k, none⟩) (by show ¬ g = bm; omega) q0
      obtain ⟨sx, hsx⟩ : ∃ sx : ByteArray, (⟨⟨x⟩⟩ : ByteArray) = sx := ⟨_, rfl⟩
      have hsl : sx.data.toList = x := by rw [← hsx]
      have hq : Go.Proofs.encStr x = .string sx := by rw [← hsx]; first | done | rfl
      rw [hq] at q1
      have hin : getB (runR hist) sx ≠ none := by rw [← hsx]; exact (HM.out.2.1 x).1 (List.mem_of_getElem? hx)
      obtain ⟨b, hb⟩ : ∃ b, getB (runR hist) sx = some b := by
        cases hg : getB (runR hist) sx with
        | none => exact absurd hg hin
        | some b => exact ⟨b, rfl⟩
      have hss : sx.size ≤ 80 := HM.out.2.2 _ (getB_mem hb)
      have hDw : Dk wr _ _ db size hist := ((HW.out.1.below HW.out.2.1).below HB2.out).chg HR.out.2 (fun k hk (e : k = bm) => by have := HW.out.1.ltF k hk; have := HW.out.2.2; omega) (fun k hk (e : k = bm) => by have := HW.out.1.ltR k hk; have := HW.out.2.2; omega)
      have hrd := read_dk hDw sx (by omega) (by omega)
      rw [readB_name (HN.out sx hin), hb] at hrd
      simp only [Option.getD_some] at hrd
      generalize (readB (runR hist) sx).2 = rc at hrd
      have hbl : b.length ≤ 500000000 := by
        have e1 := getB_used (fs := runR hist) (s := sx)
        rw [hb] at e1
        have := HUL.out
        simp only [Option.getD_some] at e1
        omega
      have hnx : Hid (∀ s : ByteArray, s.data.toList ∈ L.take (k + 1) ↔ s.data.toList ∈ L.take k ∨ s = sx) := Lib.hid (fun s => by
        rw [List.take_add_one, hx]
        simp only [Option.toList_some, List.mem_append, List.mem_singleton]
        rw [← hsl]
        constructor
        · rintro (h | h)
          · exact .inl h
          · exact .inr (Classical.byContradiction fun hne => data_ne hne h)
        · rintro (h | rfl)
          · exact .inl h
          · exact .inr rfl)
      have hnot : sx.data.toList ∉ L.take k := fun h => by
        obtain ⟨i, hi⟩ := List.mem_iff_getElem?.1 h
        have hik : i < k := by have := (List.getElem?_eq_some_iff.1 hi).1; rw [List.length_take] at this; omega
        rw [List.getElem?_take, if_pos hik] at hi
        have h1 := (List.pairwise_iff_getElem.1 (List.nodup_iff_pairwise_ne.1 HM.out.1)) i k (by rw [HNL.out]; omega) (by rw [HNL.out]; omega) hik
        have h2 := (List.getElem?_eq_some_iff.1 hi).2
        have h3 := (List.getElem?_eq_some_iff.1 hx).2
        exact h1 (by rw [h2, h3, hsl])
      have HBB := Lib.hid (And.intro hb hnot)
      clear q0 hx hsl hq hsx hin hb hnot hDw
      have HRD := Lib.hid hrd
      clear hrd
      go_wp2_with fail
      refine HRD.out.mono ?_
      rintro e w5 ⟨v5, rfl, ho5, hb5⟩
      obtain ⟨A5, c5, rfl, _⟩ := own_slice2 ho5
      obtain ⟨w6, hst, hI6, hc6, hz6⟩ := (HR.out.1.below hb5).store (s := sx) (by simp only [maxLen]; omega) (by simp only [maxLen]; omega) (b.length : Int)
      have hfin : Hid (IMap w6 bm (k + 1) (fun s => if s.data.toList ∈ L.take (k + 1) then sizeF (runR hist) s else none) ∧ Chg w2 w6 (fun b => b = bm)) := Lib.hid ⟨by
        simp only [if_neg HBB.out.2, Option.isSome_none, Bool.false_eq_true, if_false] at hI6
        refine cast ?_ hI6
        congr 1
        funext s
        by_cases hs : s = sx
        · subst hs
          rw [if_pos rfl, if_pos ((hnx.out s).2 (.inr rfl))]
          unfold sizeF
          rw [HBB.out.1]; rfl
        · rw [if_neg hs]
          by_cases h2 : s.data.toList ∈ L.take k
          · rw [if_pos h2, if_pos ((hnx.out s).2 (.inl h2))]
          · rw [if_neg h2, if_neg (fun h => ((hnx.out s).1 h).elim h2 hs)], (HR.out.2.trans (Chg.below hb5 (fun _ => False)) (fun _ _ h => h.elim)).trans hc6 (fun _ _ h => h)⟩
      clear ho5 hb5 hI6 hc6 hz6
      go_wp2_with fail
      go_roundg (gk - 1)
      case measure => omega
      case rel => exact ⟨k + 1, by omega, by go_num, hfin⟩
    · obtain rfl : k = nl := by omega
      have hfin : Hid (IMap wr bm k (sizeF (runR hist)) ∧ Below bm w wr) := Lib.hid ⟨by
        have h1 := HR.out.1
        rw [List.take_of_length_le (by rw [HNL.out]; exact Nat.le_refl _)] at h1
        refine cast ?_ h1
        congr 1
        funext s
        by_cases hs : s.data.toList ∈ L
        · rw [if_pos hs]
        · rw [if_neg hs]
          unfold sizeF
          have h3 : getB (runR hist) s = none := Classical.byContradiction fun h4 => hs ((HM.out.2.1 s.data.toList).2 h4)
          rw [h3]; rfl, by
        have e := HW.out.2.2
        have h1 := HW.out.2.1
        rw [e] at h1
        exact (h1.trans (HB2.out.mono (by omega))).trans (HR.out.2.toBelow (by omega) (fun k (hk : k = bm) => by omega))⟩
      go_wp2_with fail
      go_ret
      refine ⟨bm, rfl, by omega, ?_⟩
      rw [HNL.out]
      exact hfin.out
end Go.Proofs.YtmldpehkacemfaaGreatDoor
namespace Go.Proofs.YtmldpehkacemfaaGreatDoor
open Go.RowKit Go.Bd
set_option maxRecDepth 100000 in
set_option maxHeartbeats 2000000 in
theorem vast_any (w : World) (l : List (ByteArray × Bs)) (v : Value) (h : FilesS w (fun k => k < w.heap.size) v l) (hl : l.length ≤ 1000000) (hs : textsN l ≤ 8388608) :
    Calls Tryz.prog 20 #[v] w fun e w' => e = .returned (.bool false) ∧ Below w.heap.size w w' := by
  obtain ⟨A, c, rfl, hc, h1⟩ := h
  have HC := Lib.hid h1
  have HS := Lib.hid hs
  clear h1 hs
  obtain ⟨nl, hnl⟩ : ∃ nl, l.length = nl := ⟨_, rfl⟩
  rw [hnl] at hl hc
  rw [hnl]
  have HN := Lib.hid hnl
  clear hnl
  go_enter Tryz.func20, Tryz.ntmps20
  go_wp2_with fail
  go_loopg [3, 8] nl (fun q av iv wr => ∃ k a : Nat, k + q = nl ∧ iv = .int .i64 (k : Int) ∧ av = .int .i64 (a : Int) ∧ a ≤ 8388608 ∧ Hid (a = textsN (l.take k) ∧ Below w.heap.size w wr))
  case atStart => exact ⟨0, 0, by omega, rfl, rfl, by omega, Lib.hid ⟨rfl, Below.refl _ _⟩⟩
  case round =>
    obtain ⟨k, a, hk, rfl, rfl, ha, HR⟩ := hrel
    by_cases hlt : k < nl
    · obtain ⟨f, hf⟩ : ∃ f, l[k]? = some f := ⟨_, List.getElem?_eq_getElem (by rw [HN.out]; exact hlt)⟩
      obtain ⟨b, off, rfl, hb, hc0, hc1⟩ := HC.out k f hf
      have q0 := (HR.out.2.cell (p := ⟨b, off + k * 2, none⟩) hb).trans hc0
      have q1 := (HR.out.2.cell (p := ⟨b, off + k * 2 + 1, none⟩) hb).trans hc1
      have hnx : textsN (l.take (k + 1)) = a + f.2.length := by
        rw [List.take_add_one, hf, HR.out.1]
        unfold textsN
        simp
      have hle : textsN (l.take (k + 1)) ≤ textsN l := by
        unfold textsN
        conv => rhs; rw [← List.take_append_drop (k + 1) l, List.map_append, List.sum_append]
        omega
      obtain ⟨gx, hgx⟩ : ∃ gx : ByteArray, ⟨f.2.toArray⟩ = gx := ⟨_, rfl⟩
      have hgs : gx.size = f.2.length := by rw [← hgx, size_mk]
      rw [hgx] at q1
      have hbd : a + gx.size ≤ 8388608 := by have := HS.out; omega
      rw [← hgs] at hnx
      have HX := Lib.hid hnx
      have HB := Lib.hid (HR.out.2.alloc HR.out.2.size (.cells #[.string f.1, .string gx] 50))
      clear hc0 hc1 hf hnx hle hgx hgs
      go_wp2_with fail
      go_roundg (gk - 1)
      case measure => omega
      case rel => exact ⟨k + 1, a + gx.size, by omega, by go_num, by go_num, hbd, Lib.hid ⟨HX.out.symm, HB.out⟩⟩
    · obtain rfl : k = nl := by omega
      go_wp2_with fail
      go_ret
      exact ⟨rfl, HR.out.2⟩
def AllowW (fs : Fs) (s : ByteArray) : Prop := ownB s = true ∧ (getB fs s ≠ none ∨ nameB s = true)
def AllowR (fs : Fs) (s : ByteArray) : Prop := getB fs s ≠ none ∧ ownB s = true
structure Allow (fs : Fs) (wn rm : List ByteArray) : Prop where
  w : ∀ s ∈ wn, AllowW fs s
  r : ∀ s ∈ rm, AllowR fs s
  nd : (wn ++ rm).Nodup
def hasB (l : List ByteArray) (s : ByteArray) : Bool := l.any fun t => decide (t = s)
theorem hasB_iff {l : List ByteArray} {s : ByteArray} : hasB l s = true ↔ s ∈ l := by unfold hasB; simp
def onesF (l : List ByteArray) (s : ByteArray) : Option Int := if hasB l s = true then some 1 else none
theorem onesF_in {l : List ByteArray} {s : ByteArray} (h : s ∈ l) : onesF l s = some 1 := by unfold onesF; rw [if_pos (hasB_iff.2 h)]
theorem onesF_out {l : List ByteArray} {s : ByteArray} (h : s ∉ l) : onesF l s = none := by unfold onesF; rw [if_neg (fun e => h (hasB_iff.1 e))]
theorem onesF_snoc (l : List ByteArray) (s : ByteArray) : (fun t => if t = s then some 1 else onesF l t) = onesF (l ++ [s]) := by
  funext t
  by_cases h : t = s
  · subst h
    rw [if_pos rfl, onesF_in (by simp)]
  · rw [if_neg h]
    by_cases h2 : t ∈ l
    · rw [onesF_in h2, onesF_in (List.mem_append_left _ h2)]
    · rw [onesF_out h2, onesF_out (by simp [h2, h])]
theorem nodup_snoc {α : Type} {l : List α} {a : α} (h : l.Nodup) (ha : a ∉ l) : (l ++ [a]).Nodup := by
  rw [List.nodup_append]
  refine ⟨h, by simp, fun x hx y hy => ?_⟩
  rw [List.mem_singleton] at hy
  subst hy
  rintro rfl
  exact ha hx
theorem take_snoc {α : Type} {l : List α} {k : Nat} {a : α} (h : l[k]? = some a) : l.take (k + 1) = l.take k ++ [a] := by rw [List.take_add_one, h]; rfl
theorem not_nodup {l : List ByteArray} {k : Nat} {s : ByteArray} (h : l[k]? = some s) (hd : s ∈ l.take k) : ¬ l.Nodup := fun hn => by
  have h1 := hn.sublist (List.take_sublist (k + 1) l)
  rw [take_snoc h, List.nodup_append] at h1
  exact h1.2.2 s hd s (List.mem_singleton.2 rfl) rfl
set_option maxRecDepth 100000 in
set_option maxHeartbeats 4000000 in
theorem allowed_any {w : World} {F Ro : Nat → Prop} {db size : Nat} {hist : List Raw} (h : Dk w F Ro db size hist) {bm N : Nat} (hI : IMap w bm N (sizeF (runR hist))) (wr0 : List (ByteArray × Bs)) (rm : List ByteArray) (wv rv : Value)
    (hW : FilesS w (fun k => k < w.heap.size) wv wr0) (hR : TextsS w (fun k => k < w.heap.size) rv rm) (hl : wr0.length ≤ 1000000 ∧ rm.length ≤ 1000000) (hs : (∀ f ∈ wr0, f.1.size ≤ 1000000000) ∧ ∀ s ∈ rm, s.size ≤ 1000000000) (hh : hist.length ≤ 800000) :
    Calls Tryz.prog 18 #[.pointer (some ⟨db, 0, none⟩), .map (some bm), wv, rv] w fun e w' => ∃ b : Bool, (b = true ↔ Allow (runR hist) (wr0.map (·.1)) rm) ∧ e = .returned (.bool b) ∧ Below w.heap.size w w' := by
  have hmm := @run_makeMap Tryz.prog
  obtain ⟨Aw, cw, rfl, hcw, hw1⟩ := hW
  obtain ⟨Ar, cr, rfl, hcr, hr1⟩ := hR
  obtain ⟨nw, hnw⟩ : ∃ nw, wr0.length = nw := ⟨_, rfl⟩
  obtain ⟨nr, hnr⟩ : ∃ nr, rm.length = nr := ⟨_, rfl⟩
  rw [hnw] at hcw hl
  rw [hnr] at hcr hl
  rw [hnw, hnr]
  obtain ⟨wn, hwn⟩ : ∃ wn, wr0.map (·.1) = wn := ⟨_, rfl⟩
  have hwl : wn.length = nw := by rw [← hwn, List.length_map, hnw]
  rw [hwn]
  obtain ⟨W1, hW1⟩ : ∃ W1, w.alloc (.map #[] 0) = W1 := ⟨_, rfl⟩
  have hI0 := IMap.new w
  have hb1 : Below w.heap.size w W1 := by rw [← hW1]; exact (Below.refl _ _).alloc (Nat.le_refl _) _
  rw [hW1] at hI0
  obtain ⟨bn, hbn⟩ : ∃ bn, w.heap.size = bn := ⟨_, rfl⟩
  have hbn1 : bn < W1.heap.size := by have := hI0.lt; omega
  rw [hbn] at hI0
  have hbm1 : bm < bn := by have := hI.lt; omega
  have HW := Lib.hid (And.intro h (And.intro hb1 (And.intro hbn hI)))
  have HI := Lib.hid hI0
  have HC := Lib.hid (And.intro hw1 hr1)
  have HL := Lib.hid (And.intro hwl (And.intro hwn (And.intro hnw hnr)))
  have HS := Lib.hid hs
  have hl1 := hl.1
  have hl2 := hl.2
  have HDW : Hid (∀ W, Chg W1 W (fun k => k = bn) → Dk W F Ro db size hist ∧ IMap W bm N (sizeF (runR hist)) ∧ Below w.heap.size w W) := Lib.hid (fun W hc => ⟨(h.below hb1).chg hc (fun k hk (e : k = bn) => by have := h.ltF k hk; omega) (fun k hk (e : k = bn) => by have := h.ltR k hk; omega), (hI.below hb1).chg hc (by omega), hb1.trans (hc.toBelow hb1.size (fun k (e : k = bn) => by omega))⟩)
  clear h hb1 hI hI0 hw1 hr1 hwl hwn hs hl hnw hnr
  go_enter Tryz.func18, Tryz.ntmps18
  go_wp2_with fail
  (try rw [hW1])
  (try rw [hbn])
  clear hW1 hmm hbn
  go_loopg [23] nw (fun q iv wr => ∃ k : Nat, k + q = nw ∧ iv = .int .i64 (k : Int) ∧ Hid (IMap wr bn k (onesF (wn.take k)) ∧ Chg W1 wr (fun b => b = bn) ∧ (∀ s ∈ wn.take k, AllowW (runR hist) s) ∧ (wn.take k).Nodup))
  case atStart => exact ⟨0, by omega, rfl, Lib.hid ⟨by
    have e : onesF (wn.take 0) = fun _ => none := by funext s; exact onesF_out (by simp)
    rw [e]
    exact HI.out, Chg.refl _ _, by simp, by simp⟩⟩
  case round =>
    obtain ⟨k, hk, rfl, HR⟩ := hrel
    by_cases hlt : k < nw
    · obtain ⟨f, hf⟩ : ∃ f, wr0[k]? = some f := ⟨_, List.getElem?_eq_getElem (by rw [HL.out.2.2.1]; exact hlt)⟩
      obtain ⟨b, off, rfl, hb, hc0, hc1⟩ := HC.out.1 k f hf
      have hB := (HDW.out wr HR.out.2.1).2.2
      have q0 := (hB.cell (p := ⟨b, off + k * 2, none⟩) hb).trans hc0
      have q1 := (hB.cell (p := ⟨b, off + k * 2 + 1, none⟩) hb).trans hc1
      have hwk : wn[k]? = some f.1 := by rw [← HL.out.2.1, List.getElem?_map, hf]; rfl
      have hss := HS.out.1 f (List.mem_of_getElem? hf)
      obtain ⟨s, hs⟩ : ∃ s, f.1 = s := ⟨_, rfl⟩
      obtain ⟨gx, hgx⟩ : ∃ gx : ByteArray, ⟨f.2.toArray⟩ = gx := ⟨_, rfl⟩
      rw [hs] at q0 hwk hss
      rw [hgx] at q1
      obtain ⟨W2, hW2⟩ : ∃ W2, wr.alloc (.cells #[.string s, .string gx] 50) = W2 := ⟨_, rfl⟩
      have hb2 : Below wr.heap.size wr W2 := by rw [← hW2]; exact (Below.refl _ _).alloc (Nat.le_refl _) _
      have hN2 := Holds.new wr 50 #[.string s, .string gx]
      rw [hW2] at hN2
      obtain ⟨fx, hfx⟩ : ∃ fx, wr.heap.size = fx := ⟨_, rfl⟩
      rw [hfx] at hN2
      have hI2 := HR.out.1.below hb2
      have hbf : fx ≠ bn := by have := HR.out.1.lt; omega
      have hlk := hI2.look (s := s) (by simp only [maxLen]; omega)
      obtain ⟨W3, hup, hI3, hc3, hz3⟩ := hI2.store (by simp only [maxLen]; omega) (s := s) (by simp only [maxLen]; omega) ((onesF (wn.take k) s).getD 0 + 1)
      have hN3 := hc3.holds hbf hN2
      have hlk3 := hI3.look (s := s) (by simp only [maxLen]; omega)
      rw [if_pos rfl] at hlk3
      simp only [Option.getD_some] at hlk3
      have hc13 : Chg W1 W3 (fun b => b = bn) := (HR.out.2.1.trans (Chg.below hb2 (fun _ => False)) (fun _ _ h => h.elim)).trans hc3 (fun _ _ h => h)
      obtain ⟨hD3, hH3, hB3⟩ := HDW.out W3 hc13
      have hlkh := hH3.look_ok (s := s) (by simp only [maxLen]; omega)
      have hown := fun W => own_any s W
      have hrd := read_dk hD3 s (by omega) (by omega)
      have x0 := hN2.cell 0
      have y0 := hN3.cell 0
      simp at x0 y0
      have HX := Lib.hid (And.intro hwk (And.intro hB3 (And.intro hc13 hI3)))
      have HRD := Lib.hid hrd
      clear hc0 hc1 hf hwk hB hb2 hN2 hI2 hN3 hc3 hz3 hI3 hD3 hH3 hB3 hc13 hgx hs hrd
      subst hfx
      subst hW2
      by_cases hd : s ∈ wn.take k
      · have hno : Hid (false = true ↔ Allow (runR hist) wn rm) := Lib.hid ⟨fun h => (by cases h), fun h => absurd (List.nodup_append.1 h.nd).1 (not_nodup HX.out.1 hd)⟩
        have e1 : (onesF (wn.take k) s).getD 0 = 1 := by rw [onesF_in hd]; rfl
        have e2 : (1 : Int) + 1 = 2 := rfl
        rw [e1] at hlk hup hlk3
        rw [e2] at hup hlk3
        clear hd
        cases ho : ownB s with
        | false =>
          rw [ho] at hown
          go_wp2_with (first
            | (go_at_call 38; refine (hown _).mono ?_; rintro e w9 ⟨rfl, rfl⟩)
            | fail)
          go_ret
          exact ⟨false, hno.out, rfl, HX.out.2.1⟩
        | true =>
          rw [ho] at hown
          go_wp2_with (first
            | (go_at_call 38; refine (hown _).mono ?_; rintro e w9 ⟨rfl, rfl⟩)
            | fail)
          go_ret
          exact ⟨false, hno.out, rfl, HX.out.2.1⟩
      · have e1 : (onesF (wn.take k) s).getD 0 = 0 := by rw [onesF_out hd]; rfl
        have e2 : (0 : Int) + 1 = 1 := rfl
        have hI3 := HX.out.2.2.2
        rw [e1, onesF_out hd, e2, onesF_snoc] at hI3
        simp only [Option.isSome_none, Bool.false_eq_true, if_false] at hI3
        rw [← take_snoc HX.out.1] at hI3
        rw [e1] at hlk hup hlk3
        rw [e2] at hup hlk3
        have HI3 := Lib.hid (And.intro hI3 hd)
        clear hI3 hd
        cases ho : ownB s with
        | false =>
          have hno : Hid (false = true ↔ Allow (runR hist) wn rm) := Lib.hid ⟨fun h => (by cases h), fun h => by
            have := (h.w s (List.mem_of_getElem? HX.out.1)).1
            rw [ho] at this; cases this⟩
          rw [ho] at hown
          go_wp2_with (first
            | (go_at_call 38; refine (hown _).mono ?_; rintro e w9 ⟨rfl, rfl⟩)
            | fail)
          go_ret
          exact ⟨false, hno.out, rfl, HX.out.2.1⟩
        | true =>
          rw [ho] at hown
          generalize (sizeF (runR hist) s).getD 0 = sz at hlkh
          by_cases hp : getB (runR hist) s = none
          · have hsz : (sizeF (runR hist) s).isSome = false := by unfold sizeF; rw [hp]; rfl
            rw [hsz] at hlkh
            cases hnm : nameB s with
            | false =>
              have hno : Hid (false = true ↔ Allow (runR hist) wn rm) := Lib.hid ⟨fun h => (by cases h), fun h => by
                rcases (h.w s (List.mem_of_getElem? HX.out.1)).2 with h2 | h2
                · exact (h2 hp).elim
                · rw [hnm] at h2; cases h2⟩
              have hrc : (readB (runR hist) s).2 = 1 := by unfold readB; rw [hnm]; rfl
              rw [hrc] at HRD
              clear hsz hp hrc
              go_wp2_with (first
                | (go_at_call 38; refine (hown _).mono ?_; rintro e w9 ⟨rfl, rfl⟩)
                | (go_at_call 39; refine HRD.out.mono ?_; rintro e w9 ⟨v9, rfl, ho9, hb9⟩; obtain ⟨A9, c9, rfl, _⟩ := own_slice2 ho9; have HB9 := Lib.hid hb9; clear ho9 hb9)
                | fail)
              go_ret
              exact ⟨false, hno.out, rfl, HX.out.2.1.trans (HB9.out.mono HX.out.2.1.size)⟩
            | true =>
              have hrc : (readB (runR hist) s).2 = 5 := by unfold readB; rw [hnm, hp]; rfl
              rw [hrc] at HRD
              have hok : Hid (AllowW (runR hist) s) := Lib.hid ⟨ho, .inr hnm⟩
              clear hsz hp hrc hnm ho
              go_wp2_with (first
                | (go_at_call 38; refine (hown _).mono ?_; rintro e w9 ⟨rfl, rfl⟩)
                | (go_at_call 39; refine HRD.out.mono ?_; rintro e w9 ⟨v9, rfl, ho9, hb9⟩; obtain ⟨A9, c9, rfl, _⟩ := own_slice2 ho9; have HB9 := Lib.hid hb9; clear ho9 hb9)
                | fail)
              go_roundg (gk - 1)
              case measure => omega
              case rel =>
                refine ⟨k + 1, by omega, by go_num, Lib.hid ⟨HI3.out.1.below HB9.out, HX.out.2.2.1.trans (Chg.below HB9.out (fun _ => False)) (fun _ _ h => h.elim), fun t ht => ?_, ?_⟩⟩
                · rw [take_snoc HX.out.1] at ht
                  rcases List.mem_append.1 ht with h | h
                  · exact HR.out.2.2.1 t h
                  · rw [List.mem_singleton.1 h]; exact hok.out
                · rw [take_snoc HX.out.1]; exact nodup_snoc HR.out.2.2.2 HI3.out.2
          · have hsz : (sizeF (runR hist) s).isSome = true := by
              unfold sizeF
              cases hg : getB (runR hist) s with
              | none => exact absurd hg hp
              | some b => rfl
            rw [hsz] at hlkh
            have hok : Hid (AllowW (runR hist) s) := Lib.hid ⟨ho, .inl hp⟩
            clear hsz hp ho
            go_wp2_with (first
              | (go_at_call 38; refine (hown _).mono ?_; rintro e w9 ⟨rfl, rfl⟩)
              | fail)
            go_roundg (gk - 1)
            case measure => omega
            case rel =>
              refine ⟨k + 1, by omega, by go_num, Lib.hid ⟨HI3.out.1, HX.out.2.2.1, fun t ht => ?_, ?_⟩⟩
              · rw [take_snoc HX.out.1] at ht
                rcases List.mem_append.1 ht with h | h
                · exact HR.out.2.2.1 t h
                · rw [List.mem_singleton.1 h]; exact hok.out
              · rw [take_snoc HX.out.1]; exact nodup_snoc HR.out.2.2.2 HI3.out.2
    · obtain rfl : k = nw := by omega
      have HR1 : Hid (IMap wr bn k (onesF wn) ∧ Chg W1 wr (fun b => b = bn) ∧ (∀ s ∈ wn, AllowW (runR hist) s) ∧ wn.Nodup) := Lib.hid (by
        have := HR.out
        rwa [List.take_of_length_le (by rw [HL.out.1]; exact Nat.le_refl _)] at this)
      clear HR
      obtain ⟨wO, hwO⟩ : ∃ x, x = wr := ⟨_, rfl⟩
      subst hwO
      go_wp2_with fail
      go_loopg [64] nr (fun q iv wr => ∃ j : Nat, j + q = nr ∧ iv = .int .i64 (j : Int) ∧ Hid (IMap wr bn (k + j) (onesF (wn ++ rm.take j)) ∧ Chg W1 wr (fun b => b = bn) ∧ (∀ s ∈ rm.take j, AllowR (runR hist) s) ∧ (wn ++ rm.take j).Nodup))
      case atStart => exact ⟨0, by omega, rfl, Lib.hid ⟨by simpa using HR1.out.1, HR1.out.2.1, by simp, by simpa using HR1.out.2.2.2⟩⟩
      case round =>
        obtain ⟨j, hj, rfl, HR⟩ := hrel
        by_cases hlt : j < nr
        · obtain ⟨s, hs⟩ : ∃ s, rm[j]? = some s := ⟨_, List.getElem?_eq_getElem (by rw [HL.out.2.2.2]; exact hlt)⟩
          obtain ⟨b, off, rfl, hb, hc0⟩ := HC.out.2 j s hs
          have hB := (HDW.out wr HR.out.2.1).2.2
          have q0 := (hB.cell (p := ⟨b, off + j, none⟩) hb).trans hc0
          have hss := HS.out.2 s (List.mem_of_getElem? hs)
          have hI2 := HR.out.1
          have hlk := hI2.look (s := s) (by simp only [maxLen]; omega)
          obtain ⟨W3, hup, hI3, hc3, hz3⟩ := hI2.store (by simp only [maxLen]; omega) (s := s) (by simp only [maxLen]; omega) ((onesF (wn ++ rm.take j) s).getD 0 + 1)
          have hlk3 := hI3.look (s := s) (by simp only [maxLen]; omega)
          rw [if_pos rfl] at hlk3
          simp only [Option.getD_some] at hlk3
          have hc13 : Chg W1 W3 (fun b => b = bn) := HR.out.2.1.trans hc3 (fun _ _ h => h)
          obtain ⟨hD3, hH3, hB3⟩ := HDW.out W3 hc13
          have hlkh := hH3.look_ok (s := s) (by simp only [maxLen]; omega)
          have hown := fun W => own_any s W
          have HX := Lib.hid (And.intro hs (And.intro hB3 (And.intro hc13 hI3)))
          generalize (sizeF (runR hist) s).getD 0 = sz at hlkh
          clear hc0 hs hB hI2 hc3 hz3 hI3 hD3 hH3 hB3 hc13
          have hsome : (sizeF (runR hist) s).isSome = (getB (runR hist) s).isSome := by unfold sizeF; cases getB (runR hist) s <;> rfl
          rw [hsome] at hlkh
          clear hsome
          by_cases hd : s ∈ wn ++ rm.take j
          · have hno : Hid (false = true ↔ Allow (runR hist) wn rm) := Lib.hid ⟨fun h => (by cases h), fun h => by
              have h1 := h.nd.sublist (List.Sublist.append (List.Sublist.refl wn) (List.take_sublist (j + 1) rm))
              rw [take_snoc HX.out.1, ← List.append_assoc, List.nodup_append] at h1
              exact (h1.2.2 s hd s (List.mem_singleton.2 rfl) rfl).elim⟩
            have e1 : (onesF (wn ++ rm.take j) s).getD 0 = 1 := by rw [onesF_in hd]; rfl
            have e2 : (1 : Int) + 1 = 2 := rfl
            rw [e1] at hlk hup hlk3
            rw [e2] at hup hlk3
            clear hd
            cases hg : (getB (runR hist) s).isSome with
            | false =>
              rw [hg] at hlkh
              go_wp2_with fail
              go_ret
              exact ⟨false, hno.out, rfl, HX.out.2.1⟩
            | true =>
              rw [hg] at hlkh
              cases ho : ownB s with
              | false =>
                rw [ho] at hown
                go_wp2_with (first
                  | (go_at_call 38; refine (hown _).mono ?_; rintro e w9 ⟨rfl, rfl⟩)
                  | fail)
                go_ret
                exact ⟨false, hno.out, rfl, HX.out.2.1⟩
              | true =>
                rw [ho] at hown
                go_wp2_with (first
                  | (go_at_call 38; refine (hown _).mono ?_; rintro e w9 ⟨rfl, rfl⟩)
                  | fail)
                go_ret
                exact ⟨false, hno.out, rfl, HX.out.2.1⟩
          · have e1 : (onesF (wn ++ rm.take j) s).getD 0 = 0 := by rw [onesF_out hd]; rfl
            have e2 : (0 : Int) + 1 = 1 := rfl
            have hI3 := HX.out.2.2.2
            rw [e1, onesF_out hd, e2, onesF_snoc] at hI3
            simp only [Option.isSome_none, Bool.false_eq_true, if_false] at hI3
            rw [List.append_assoc, ← take_snoc HX.out.1] at hI3
            rw [e1] at hlk hup hlk3
            rw [e2] at hup hlk3
            have HI3 := Lib.hid (And.intro hI3 hd)
            clear hI3 hd
            cases hg : (getB (runR hist) s).isSome with
            | false =>
              have hno : Hid (false = true ↔ Allow (runR hist) wn rm) := Lib.hid ⟨fun h => (by cases h), fun h => by
                have := (h.r s (List.mem_of_getElem? HX.out.1)).1
                cases hgg : getB (runR hist) s with
                | none => exact (this hgg).elim
                | some _ => rw [hgg] at hg; cases hg⟩
              rw [hg] at hlkh
              go_wp2_with fail
              go_ret
              exact ⟨false, hno.out, rfl, HX.out.2.1⟩
            | true =>
              rw [hg] at hlkh
              cases ho : ownB s with
              | false =>
                have hno : Hid (false = true ↔ Allow (runR hist) wn rm) := Lib.hid ⟨fun h => (by cases h), fun h => by
                  have := (h.r s (List.mem_of_getElem? HX.out.1)).2
                  rw [ho] at this; cases this⟩
                rw [ho] at hown
                go_wp2_with (first
                  | (go_at_call 38; refine (hown _).mono ?_; rintro e w9 ⟨rfl, rfl⟩)
                  | fail)
                go_ret
                exact ⟨false, hno.out, rfl, HX.out.2.1⟩
              | true =>
                have hok : Hid (AllowR (runR hist) s) := Lib.hid ⟨fun e => (by rw [e] at hg; cases hg), ho⟩
                rw [ho] at hown
                clear ho hg
                go_wp2_with (first
                  | (go_at_call 38; refine (hown _).mono ?_; rintro e w9 ⟨rfl, rfl⟩)
                  | fail)
                go_roundg (gk - 1)
                case measure => omega
                case rel =>
                  refine ⟨j + 1, by omega, by go_num, Lib.hid ⟨HI3.out.1, HX.out.2.2.1, fun t ht => ?_, ?_⟩⟩
                  · rw [take_snoc HX.out.1] at ht
                    rcases List.mem_append.1 ht with h | h
                    · exact HR.out.2.2.1 t h
                    · rw [List.mem_singleton.1 h]; exact hok.out
                  · rw [take_snoc HX.out.1, ← List.append_assoc]; exact nodup_snoc HR.out.2.2.2 HI3.out.2
        · obtain rfl : j = nr := by omega
          have hyes : Hid (true = true ↔ Allow (runR hist) wn rm) := Lib.hid ⟨fun _ => by
            have h1 := HR.out
            rw [List.take_of_length_le (by rw [HL.out.2.2.2]; exact Nat.le_refl _)] at h1
            exact ⟨HR1.out.2.2.1, h1.2.2.1, h1.2.2.2⟩, fun _ => rfl⟩
          have hB := (HDW.out wr HR.out.2.1).2.2
          have HB := Lib.hid hB
          clear hB
          go_wp2_with fail
          go_ret
          first
          | exact ⟨true, by simpa using hyes.out, rfl, HB.out⟩
          | exact .inr ⟨by simpa using hyes.out, rfl, HB.out⟩
end Go.Proofs.YtmldpehkacemfaaGreatDoor
namespace Go.Proofs.YtmldpehkacemfaaGreatDoor
open Go.RowKit Go.Bd
def zerosB (n : Nat) : Bs := List.replicate n 0
theorem zerosB_length (n : Nat) : (zerosB n).length = n := by unfold zerosB; simp
theorem u8L_zeros (n : Nat) : u8L (zerosB n) = List.replicate n (.int .u8 0) := by unfold u8L zerosB; simp
theorem make_zeros (w : World) (F : Nat → Prop) (hF : ¬ F w.heap.size) (L : Int) (n : Nat) (hL : L = (n : Int)) (hn : n ≤ 100000000) : ∃ w', (Instr.makeSlice 69 (.int .i64 L) (.int .i64 L)).run Tryz.prog w = .ok (.slice (some ⟨w.heap.size, 0, none⟩) n n) w' ∧ InB w' F (some ⟨w.heap.size, 0, none⟩) (zerosB n) ∧ Below w.heap.size w w' := by
  obtain ⟨i0, hi, hz0, hz1, hz2⟩ := info_parts info_u8
  subst hL
  obtain ⟨w', h1, h2, h3⟩ := run_make_full w w.heap.size 69 5 i0 (.int .u8 0) 1 under_bytes hi hz0 hz1 .i64 .i64 n (by rw [hz2]; omega) (by simp only [maxLen]; omega) (Nat.le_refl _)
  refine ⟨w', h1, .inr ⟨w.heap.size, 0, rfl, hF, fun j u hj => ?_⟩, (Below.refl _ _).grown h3 (Nat.le_refl _) (fun k h => by cases h)⟩
  have e : (madeCells (Value.int IntKind.u8 0).cells (n * 1)).toList = u8L (zerosB n) := by
    have e1 : (Value.int IntKind.u8 0).cells = #[Value.int IntKind.u8 0] := rfl
    rw [e1, Nat.mul_one, toList_madeCells_one, u8L_zeros]
  rw [e] at h2
  have := h2.cells (g := w.heap.size) rfl j u hj
  rwa [add_addr] at this
def growB (f : ByteArray → Option Int) (p : Plan) : Int := (p.wr.map fun x => (x.2.length : Int) - (f x.1).getD 0).sum - (p.rm.map fun s => (f s).getD 0).sum
def newF (f : ByteArray → Option Int) (l : List (ByteArray × Bs)) : Nat := (l.map fun x => if (f x.1).isSome then 0 else 1).sum
theorem sum_snoc (l : List Int) (a : Int) : (l ++ [a]).sum = l.sum + a := by simp
theorem nsum_snoc (l : List Nat) (a : Nat) : (l ++ [a]).sum = l.sum + a := by simp
theorem newF_le (f : ByteArray → Option Int) : ∀ l : List (ByteArray × Bs), newF f l ≤ l.length
  | [] => by simp [newF]
  | a :: l => by
    have := newF_le f l
    unfold newF at *
    rw [List.map_cons, List.sum_cons, List.length_cons]
    split <;> omega
set_option maxRecDepth 100000 in
set_option maxHeartbeats 4000000 in
theorem grows_any (w : World) {bm N : Nat} {f : ByteArray → Option Int} (hI : IMap w bm N f) (p : Plan) (rv wv : Value) (hR : TextsS w (fun k => k < w.heap.size) rv p.rm) (hW : FilesS w (fun k => k < w.heap.size) wv p.wr)
    (hl : p.rm.length ≤ 1000000 ∧ p.wr.length ≤ 1000000) (hs : (∀ s ∈ p.rm, s.size ≤ 1000000000) ∧ ∀ x ∈ p.wr, x.1.size ≤ 1000000000 ∧ x.2.length ≤ 1000000000) (hf : ∀ s, 0 ≤ (f s).getD 0 ∧ (f s).getD 0 ≤ 1000000000) :
    Calls Tryz.prog 49 #[.agg #[rv, wv], .map (some bm)] w fun e w' => e = .returned (.tuple #[.int .i64 (growB f p), .int .i64 ((newF f p.wr : Int) - (p.rm.length : Int))]) ∧ Below w.heap.size w w' := by
  obtain ⟨Ar, cr, rfl, hcr, hr1⟩ := hR
  obtain ⟨Aw, cw, rfl, hcw, hw1⟩ := hW
  obtain ⟨nr, hnr⟩ : ∃ nr, p.rm.length = nr := ⟨_, rfl⟩
  obtain ⟨nw, hnw⟩ : ∃ nw, p.wr.length = nw := ⟨_, rfl⟩
  rw [hnr] at hcr hl
  rw [hnw] at hcw hl
  rw [hnr, hnw]
  obtain ⟨W0, hW0⟩ : ∃ W0, w.alloc (.cells #[.slice Ar nr cr, .slice Aw nw cw] 64) = W0 := ⟨_, rfl⟩
  have hN0 := Holds.new w 64 #[.slice Ar nr cr, .slice Aw nw cw]
  have hbw : Below w.heap.size w W0 := by rw [← hW0]; exact (Below.refl _ _).alloc (Nat.le_refl _) _
  rw [hW0] at hN0
  obtain ⟨bx, hbx⟩ : ∃ bx, w.heap.size = bx := ⟨_, rfl⟩
  rw [hbx] at hN0
  have x0 := hN0.cell 0
  have x1 := hN0.cell 1
  simp at x0 x1
  have hI0 := hI.below hbw
  have HH := Lib.hid (And.intro hI0 (And.intro hbw hbx))
  have HC := Lib.hid (And.intro hr1 hw1)
  have HN := Lib.hid (And.intro hnr hnw)
  have HS := Lib.hid hs
  have HF := Lib.hid hf
  have HX0 := Lib.hid hN0
  have hl1 := hl.1
  have hl2 := hl.2
  clear hI hI0 hbw hr1 hw1 hnr hnw hs hf hl hN0
  go_enter Tryz.func49, Tryz.ntmps49
  go_wp2_with fail
  (try rw [hW0])
  (try rw [hbx])
  clear hW0 hbx
  go_loopg [4, 5, 15] nr (fun q bv fv iv wr => ∃ (k : Nat) (b : Int), k + q = nr ∧ iv = .int .i64 (k : Int) ∧ bv = .int .i64 b ∧ fv = .int .i64 (-(k : Int)) ∧ -(1000000000 * (k : Int)) ≤ b ∧ b ≤ 0 ∧ wr = W0 ∧ Hid (b = -((p.rm.take k).map fun s => (f s).getD 0).sum))
  case atStart => exact ⟨0, 0, by omega, rfl, rfl, rfl, by omega, by omega, rfl, Lib.hid (by simp)⟩
  case round =>
    obtain ⟨k, b, hk, rfl, rfl, rfl, hb1, hb2, rfl, HR⟩ := hrel
    by_cases hlt : k < nr
    · obtain ⟨s, hs⟩ : ∃ s, p.rm[k]? = some s := ⟨_, List.getElem?_eq_getElem (by rw [HN.out.1]; exact hlt)⟩
      obtain ⟨bb, off, rfl, hbb, hc0⟩ := HC.out.1 k s hs
      have q0 := (HH.out.2.1.cell (p := ⟨bb, off + k, none⟩) hbb).trans hc0
      have hss := HS.out.1 s (List.mem_of_getElem? hs)
      have hlk := HH.out.1.look (s := s) (by simp only [maxLen]; omega)
      have hfs := HF.out s
      have hnx : Hid (b - (f s).getD 0 = -((p.rm.take (k + 1)).map fun s => (f s).getD 0).sum) := Lib.hid (by
        rw [take_snoc hs, List.map_append, HR.out]
        have := sum_snoc ((p.rm.take k).map fun s => (f s).getD 0) ((f s).getD 0)
        rw [List.map_singleton, this]
        omega)
      obtain ⟨z, hz⟩ : ∃ z, (f s).getD 0 = z := ⟨_, rfl⟩
      rw [hz] at hlk hfs hnx
      clear hc0 hs hz HR
      go_wp2_with fail
      go_roundg (gk - 1)
      case measure => omega
      case rel => exact ⟨k + 1, b - z, by omega, by go_num, by go_num, by go_num, by omega, by omega, rfl, hnx⟩
    · obtain rfl : k = nr := by omega
      have hbr : Hid (b = -(p.rm.map fun s => (f s).getD 0).sum) := Lib.hid (by have := HR.out; rwa [List.take_of_length_le (by rw [HN.out.1]; exact Nat.le_refl _)] at this)
      clear HR
      obtain ⟨wO, hwO⟩ : ∃ x, x = wr := ⟨_, rfl⟩
      subst hwO
      go_wp2_with fail
      go_loopg [4, 5, 30] nw (fun q bv fv iv wr => ∃ (j n : Nat) (c : Int), j + q = nw ∧ iv = .int .i64 (j : Int) ∧ bv = .int .i64 c ∧ fv = .int .i64 ((n : Int) - (k : Int)) ∧ -(1000000000 * (k : Int)) - (1000000000 * (j : Int)) ≤ c ∧ c ≤ 1000000000 * (j : Int) ∧ n ≤ j ∧ Hid (c = ((p.wr.take j).map fun x => (x.2.length : Int) - (f x.1).getD 0).sum - (p.rm.map fun s => (f s).getD 0).sum ∧ n = newF f (p.wr.take j) ∧ Below wO.heap.size wO wr))
      case atStart => exact ⟨0, 0, b, by omega, rfl, rfl, by go_num, by omega, by omega, by omega, Lib.hid ⟨by rw [hbr.out]; simp, rfl, Below.refl _ _⟩⟩
      case round =>
        obtain ⟨j, n, c, hj, rfl, rfl, rfl, hc1, hc2, hnj, HR⟩ := hrel
        by_cases hlt : j < nw
        · obtain ⟨x, hx⟩ : ∃ x, p.wr[j]? = some x := ⟨_, List.getElem?_eq_getElem (by rw [HN.out.2]; exact hlt)⟩
          obtain ⟨bb, off, rfl, hbb, hd0, hd1⟩ := HC.out.2 j x hx
          have hbo := HH.out.2.1.size
          have q0 := (HR.out.2.2.cell (p := ⟨bb, off + j * 2, none⟩) (Nat.lt_of_lt_of_le hbb hbo)).trans ((HH.out.2.1.cell (p := ⟨bb, off + j * 2, none⟩) hbb).trans hd0)
          have q1 := (HR.out.2.2.cell (p := ⟨bb, off + j * 2 + 1, none⟩) (Nat.lt_of_lt_of_le hbb hbo)).trans ((HH.out.2.1.cell (p := ⟨bb, off + j * 2 + 1, none⟩) hbb).trans hd1)
          have hss := HS.out.2 x (List.mem_of_getElem? hx)
          obtain ⟨gx, hgx⟩ : ∃ gx : ByteArray, ⟨x.2.toArray⟩ = gx := ⟨_, rfl⟩
          have hgs : gx.size = x.2.length := by rw [← hgx, size_mk]
          rw [hgx] at q1
          have hI1 := HH.out.1.below HR.out.2.2
          have hb9 := (Below.refl wr.heap.size wr).alloc (Nat.le_refl _) (.cells #[.string x.1, .string gx] 50)
          have hlk := (hI1.below hb9).look_ok (s := x.1) (by simp only [maxLen]; omega)
          have hfs := HF.out x.1
          have hnx : Hid (c + ((gx.size : Int) - (f x.1).getD 0) = ((p.wr.take (j + 1)).map fun x => (x.2.length : Int) - (f x.1).getD 0).sum - (p.rm.map fun s => (f s).getD 0).sum) := Lib.hid (by
            rw [take_snoc hx, List.map_append, HR.out.1, hgs]
            have := sum_snoc ((p.wr.take j).map fun x => (x.2.length : Int) - (f x.1).getD 0) ((x.2.length : Int) - (f x.1).getD 0)
            rw [List.map_singleton, this]
            omega)
          have hnn : Hid (newF f (p.wr.take (j + 1)) = n + if (f x.1).isSome then 0 else 1) := Lib.hid (by
            rw [take_snoc hx, HR.out.2.1]
            unfold newF
            rw [List.map_append, List.map_singleton, nsum_snoc])
          have HB9 := Lib.hid (HR.out.2.2.trans (hb9.mono HR.out.2.2.size))
          have hgb : (gx.size : Int) ≤ 1000000000 := by omega
          obtain ⟨z, hz⟩ : ∃ z, (f x.1).getD 0 = z := ⟨_, rfl⟩
          rw [hz] at hlk hfs hnx
          clear hd0 hd1 hx hz HR hgx hgs hI1 hb9
          cases hsm : (f x.1).isSome with
          | true =>
            rw [hsm] at hlk hnn
            clear hsm
            go_wp2_with fail
            go_roundg (gk - 1)
            case measure => omega
            case rel => exact ⟨j + 1, n, c + ((gx.size : Int) - z), by omega, by go_num, by go_num, rfl, by omega, by omega, by omega, Lib.hid ⟨hnx.out, by rw [hnn.out]; simp, HB9.out⟩⟩
          | false =>
            rw [hsm] at hlk hnn
            clear hsm
            go_wp2_with fail
            go_roundg (gk - 1)
            case measure => omega
            case rel => exact ⟨j + 1, n + 1, c + ((gx.size : Int) - z), by omega, by go_num, by go_num, by go_num, by omega, by omega, by omega, Lib.hid ⟨hnx.out, by rw [hnn.out]; simp, HB9.out⟩⟩
        · obtain rfl : j = nw := by omega
          have hfin : Hid (c = growB f p ∧ n = newF f p.wr ∧ Below bx w wr) := Lib.hid (by
            have h1 := HR.out
            rw [List.take_of_length_le (by rw [HN.out.2]; exact Nat.le_refl _)] at h1
            refine ⟨h1.1, h1.2.1, ?_⟩
            have e := HH.out.2.2
            have h2 := HH.out.2.1
            rw [e] at h2
            exact h2.trans (h1.2.2.mono (by have := h2.size; omega)))
          clear HR
          go_wp2_with fail
          go_ret2
          rw [← hfin.out.1, ← hfin.out.2.1]
          refine ⟨rfl, ?_⟩
          rw [HH.out.2.2]
          exact hfin.out.2.2
def zN (f : ByteArray → Option Int) (p : Plan) (log : Nat) : Nat := ((log : Int) + max (growB f p) 0).toNat
structure RoomP (fs : Fs) (size n : Nat) (p : Plan) (log : Nat) : Prop where
  files : ((namesB fs).length : Int) + (if getB fs (cntN n) = none then 2 else 1) + max ((newF (sizeF fs) p.wr : Int) - (p.rm.length : Int)) 0 ≤ 256
  wr : writeE fs size trialN (zerosB (zN (sizeF fs) p log)) = 0
set_option maxRecDepth 100000 in
set_option maxHeartbeats 4000000 in
theorem room_any {w : World} {F Ro : Nat → Prop} {db size : Nat} {hist : List Raw} (h : Dk w F Ro db size hist) {bm : Nat} (hI : IMap w bm (namesB (runR hist)).length (sizeF (runR hist))) (hbF : ¬ F bm) (p : Plan) (rv wv : Value) (hR : TextsS w (fun k => k < w.heap.size) rv p.rm) (hW : FilesS w (fun k => k < w.heap.size) wv p.wr)
    (hl : p.rm.length ≤ 1000000 ∧ p.wr.length ≤ 1000000) (hs : (∀ s ∈ p.rm, s.size ≤ 1000000000) ∧ ∀ x ∈ p.wr, x.1.size ≤ 1000000000 ∧ x.2.length ≤ 1000000000) (n : Nat) (hn : n < 99) (log : Nat) (hlog : log ≤ 10000000) (hg : growB (sizeF (runR hist)) p ≤ 10000000) (hg2 : -10000000000000000 ≤ growB (sizeF (runR hist)) p) (hh : hist.length ≤ 190000) (hsz : size ≤ 8388608) (b : Bool) (hb : b = true ↔ RoomP (runR hist) size n p log) :
    Calls Tryz.prog 28 #[.pointer (some ⟨db, 0, none⟩), .map (some bm), .agg #[rv, wv], .int .u64 (n : Int), .int .i64 (log : Int)] w fun e w' => e = .returned (.bool b) ∧ DkTo w w' F Ro db size (if b = true then runO size [.wr trialN (zerosB (zN (sizeF (runR hist)) p log)), .rm trialN] hist else hist) := by
  obtain ⟨f, hf⟩ : ∃ f, sizeF (runR hist) = f := ⟨_, rfl⟩
  have hul := h.used_le
  have hll := h.len_le
  have hf0 : ∀ s, 0 ≤ (f s).getD 0 ∧ (f s).getD 0 ≤ 1000000000 := fun s => by
    have h1 := getB_used (fs := runR hist) (s := s)
    rw [← hf]
    unfold sizeF
    cases hg : getB (runR hist) s with
    | none => simp
    | some b =>
      rw [hg] at h1
      simp only [Option.getD_some, Option.map_some] at h1 ⊢
      omega
  have hgr := fun (W : World) (hb : Below w.heap.size w W) => grows_any W (hI.below hb) p rv wv (hR.chg (Chg.below hb (fun _ => False)) (fun k hk => ⟨Nat.lt_of_lt_of_le hk hb.size, fun h => h⟩)) (hW.chg (Chg.below hb (fun _ => False)) (fun k hk => ⟨Nat.lt_of_lt_of_le hk hb.size, fun h => h⟩)) hl hs (by rw [hf]; exact hf0)
  obtain ⟨Ar, cr, rfl, _⟩ := hR
  obtain ⟨Aw, cw, rfl, _⟩ := hW
  obtain ⟨N, hN⟩ : ∃ N, (namesB (runR hist)).length = N := ⟨_, rfl⟩
  have hct := fun W => counter_any n hn W
  have hcs := cnt_size n
  have hcs2 : (f (cntN n)).isSome = !(decide (getB (runR hist) (cntN n) = none)) := by
    rw [← hf]; unfold sizeF
    cases getB (runR hist) (cntN n) <;> simp
  have hRP : b = true ↔ (N : Int) + (if getB (runR hist) (cntN n) = none then 2 else 1) + max ((newF f p.wr : Int) - (p.rm.length : Int)) 0 ≤ 256 ∧ writeE (runR hist) size trialN (zerosB (zN f p log)) = 0 := by
    rw [hb, ← hf, ← hN]
    exact ⟨fun h => ⟨h.files, h.wr⟩, fun h => ⟨h.1, h.2⟩⟩
  clear hb
  rw [hf] at hI hg hg2 ⊢
  rw [hN] at hI hll
  simp only [hf] at hgr
  obtain ⟨sc, hsc⟩ : ∃ sc, cntN n = sc := ⟨_, rfl⟩
  rw [hsc] at hct hcs hcs2 hRP
  have hzz : (zN f p log : Int) = (log : Int) + max (growB f p) 0 := by unfold zN; rw [Int.toNat_of_nonneg (by omega)]
  obtain ⟨z, hz⟩ : ∃ z, zN f p log = z := ⟨_, rfl⟩
  rw [hz] at hRP hzz ⊢
  obtain ⟨G, hG⟩ : ∃ G, growB f p = G := ⟨_, rfl⟩
  obtain ⟨M, hM⟩ : ∃ M, (newF f p.wr : Int) - (p.rm.length : Int) = M := ⟨_, rfl⟩
  have hMb : -1000000 ≤ M ∧ M ≤ 1000000 := by have := newF_le f p.wr; omega
  rw [hG] at hzz hg hg2
  rw [hM] at hRP
  simp only [hG, hM] at hgr
  have hzb : z ≤ 20000000 := by omega
  have HW := Lib.hid (And.intro h (And.intro hI hbF))
  have HG := Lib.hid hgr
  have HP := Lib.hid hRP
  have HZ := Lib.hid hzz
  have hba := (Below.refl w.heap.size w).alloc (Nat.le_refl _) (.cells #[.slice Ar p.rm.length cr, .slice Aw p.wr.length cw] 64)
  have HG0 := Lib.hid (HG.out _ hba)
  have hN0 := Holds.new w 64 #[.slice Ar p.rm.length cr, .slice Aw p.wr.length cw]
  have HBA := Lib.hid hba
  have hNN : N ≤ 190000 := by omega
  clear h hI hgr hRP hul hll hf0 hba hf hN hsc hz hG hM hl hs hN0
  go_enter Tryz.func28, Tryz.ntmps28
  go_wp2_with fail
  refine HG0.out.mono ?_
  rintro e w2 ⟨rfl, hb2⟩
  have hB2 := HBA.out.trans (hb2.mono HBA.out.size)
  have hI2 := HW.out.2.1.below hB2
  have hlk := hI2.look_ok (s := sc) (by simp only [maxLen]; omega)
  have hln := fun ty => hI2.len ty
  have HB2 := Lib.hid hB2
  rw [hcs2] at hlk
  generalize (f sc).getD 0 = fz at hlk
  clear hb2 hB2 hI2 hcs2
  have hlF := HW.out.1.ltF
  have hz2 := HB2.out.size
  obtain ⟨w3, hm3, hi3, hb3⟩ := make_zeros w2 F (fun e => by have := hlF _ e; omega) ((log : Int) + max G 0) z hzz.symm (by omega)
  have hD3 := (HW.out.1.below HB2.out).below hb3
  have hts : trialN.size ≤ 10 := by decide
  have hwr := wr_dk hD3 trialN (by omega) (zerosB z) _ z hi3 (by rw [zerosB_length]; omega) (by rw [zerosB_length]; omega) (by rw [zerosB_length]; omega) hsz
  have hco := runO_cost size [.wr trialN (zerosB z)] hist
  have hc1 : costO [.wr trialN (zerosB z)] = z / 512 + 2 := by
    show (zerosB z).length / 512 + 2 + 0 = _
    rw [zerosB_length]
    first | done | rfl
  have e1 : runO size [.wr trialN (zerosB z)] hist = hist ++ DOp.raws size (runR hist) (.wr trialN (zerosB z)) := rfl
  have e2 : runO size [.wr trialN (zerosB z), .rm trialN] hist = (hist ++ DOp.raws size (runR hist) (.wr trialN (zerosB z))) ++ DOp.raws size (runR (hist ++ DOp.raws size (runR hist) (.wr trialN (zerosB z)))) (.rm trialN) := rfl
  rw [e1, hc1] at hco
  rw [zerosB_length] at hwr
  have hno : writeE (runR hist) size trialN (zerosB z) ≠ 0 → DOp.raws size (runR hist) (.wr trialN (zerosB z)) = [] := fun h => by
    show rawsW _ _ _ _ = _
    unfold rawsW
    rw [if_neg h]
  have hnr0 := hct
  obtain ⟨h4, hh4⟩ : ∃ h4, hist ++ DOp.raws size (runR hist) (.wr trialN (zerosB z)) = h4 := ⟨_, rfl⟩
  rw [hh4] at hwr hco e2
  have HE2 := Lib.hid e2
  have HNO := Lib.hid hno
  have HH4 := Lib.hid hh4
  have HB3 := Lib.hid (HB2.out.trans (hb3.mono hz2))
  have HWR := Lib.hid hwr
  have HST := Lib.hid ((DkTo.refl HW.out.1).later HB2.out)
  clear e1 e2 hc1 hno hh4 hwr hD3 hi3 hb3 hlF
  by_cases he : getB (runR hist) sc = none
  · rw [he] at hlk
    simp only [decide_true, Bool.not_true] at hlk
    by_cases hfl : (N : Int) + 2 + max M 0 ≤ 256
    · have hfe : (N : Int) + (if getB (runR hist) sc = none then 2 else 1) + max M 0 ≤ 256 := by
        first | (rw [if_pos he]; exact hfl) | (rw [if_neg he]; exact hfl)
      have HFE := Lib.hid hfe
      clear hfe
      by_cases hwe : writeE (runR hist) size trialN (zerosB z) = 0
      · obtain rfl : b = true := HP.out.2 ⟨HFE.out, hwe⟩
        rw [hwe] at HWR
        clear hwe
        go_wp2_with (first
          | (go_at_call 32; refine (hct _).mono ?_; rintro e w9 ⟨rfl, rfl⟩)
          | (go_at_call 31; refine HWR.out.mono ?_; rintro e w4 ⟨rfl, hd4⟩; obtain ⟨F4, Ro4, hD4, hF4, hR4, hc4⟩ := hd4; have HRM := Lib.hid (rm_dk hD4 trialN (by omega) (by omega)); have HC4 := Lib.hid (And.intro hF4 (And.intro hR4 hc4)); clear hD4 hF4 hR4 hc4)
          | (go_at_call 42; refine HRM.out.mono ?_; rintro e w5 ⟨⟨v5, rfl⟩, hd5⟩; have HD5 := Lib.hid ((hd5.step HC4.out.1 HC4.out.2.1 HC4.out.2.2).first HB3.out); clear hd5)
          | fail)
        go_ret
        refine ⟨rfl, ?_⟩
        rw [HE2.out]
        exact HD5.out
      · obtain rfl : b = false := Bool.eq_false_iff.2 (fun h => hwe (HP.out.1 h).2)
        have e9 := HNO.out hwe
        have hh9 : h4 = hist := by rw [← HH4.out, e9, List.append_nil]
        have HH9 := Lib.hid hh9
        have hwi : ¬ ((writeE (runR hist) size trialN (zerosB z) : Nat) : Int) = 0 := by omega
        generalize ((writeE (runR hist) size trialN (zerosB z) : Nat) : Int) = we at hwi HWR
        clear hwe e9 hh9
        go_wp2_with (first
          | (go_at_call 32; refine (hct _).mono ?_; rintro e w9 ⟨rfl, rfl⟩)
          | (go_at_call 31; refine HWR.out.mono ?_; rintro e w4 ⟨rfl, hd4⟩; have HD4 := Lib.hid (hd4.first HB3.out); clear hd4)
          | fail)
        go_ret
        refine ⟨rfl, ?_⟩
        have := HD4.out
        rw [HH9.out] at this
        exact this
    · obtain rfl : b = false := Bool.eq_false_iff.2 (fun h => by have := (HP.out.1 h).1; rw [if_pos he] at this; exact hfl this)
      have hfg : 256 < (N : Int) + 2 + max M 0 := by omega
      clear hfl
      go_wp2_with (first
        | (go_at_call 32; refine (hct _).mono ?_; rintro e w9 ⟨rfl, rfl⟩)
        | fail)
      go_ret
      refine ⟨rfl, ?_⟩
      exact HST.out
  · have hd : decide (getB (runR hist) sc = none) = false := decide_eq_false he
    rw [hd] at hlk
    simp only [Bool.not_false] at hlk
    by_cases hfl : (N : Int) + 1 + max M 0 ≤ 256
    · have hfe : (N : Int) + (if getB (runR hist) sc = none then 2 else 1) + max M 0 ≤ 256 := by
        first | (rw [if_pos he]; exact hfl) | (rw [if_neg he]; exact hfl)
      have HFE := Lib.hid hfe
      clear hfe
      by_cases hwe : writeE (runR hist) size trialN (zerosB z) = 0
      · obtain rfl : b = true := HP.out.2 ⟨HFE.out, hwe⟩
        rw [hwe] at HWR
        clear hwe
        go_wp2_with (first
          | (go_at_call 32; refine (hct _).mono ?_; rintro e w9 ⟨rfl, rfl⟩)
          | (go_at_call 31; refine HWR.out.mono ?_; rintro e w4 ⟨rfl, hd4⟩; obtain ⟨F4, Ro4, hD4, hF4, hR4, hc4⟩ := hd4; have HRM := Lib.hid (rm_dk hD4 trialN (by omega) (by omega)); have HC4 := Lib.hid (And.intro hF4 (And.intro hR4 hc4)); clear hD4 hF4 hR4 hc4)
          | (go_at_call 42; refine HRM.out.mono ?_; rintro e w5 ⟨⟨v5, rfl⟩, hd5⟩; have HD5 := Lib.hid ((hd5.step HC4.out.1 HC4.out.2.1 HC4.out.2.2).first HB3.out); clear hd5)
          | fail)
        go_ret
        refine ⟨rfl, ?_⟩
        rw [HE2.out]
        exact HD5.out
      · obtain rfl : b = false := Bool.eq_false_iff.2 (fun h => hwe (HP.out.1 h).2)
        have e9 := HNO.out hwe
        have hh9 : h4 = hist := by rw [← HH4.out, e9, List.append_nil]
        have HH9 := Lib.hid hh9
        have hwi : ¬ ((writeE (runR hist) size trialN (zerosB z) : Nat) : Int) = 0 := by omega
        generalize ((writeE (runR hist) size trialN (zerosB z) : Nat) : Int) = we at hwi HWR
        clear hwe e9 hh9
        go_wp2_with (first
          | (go_at_call 32; refine (hct _).mono ?_; rintro e w9 ⟨rfl, rfl⟩)
          | (go_at_call 31; refine HWR.out.mono ?_; rintro e w4 ⟨rfl, hd4⟩; have HD4 := Lib.hid (hd4.first HB3.out); clear hd4)
          | fail)
        go_ret
        refine ⟨rfl, ?_⟩
        have := HD4.out
        rw [HH9.out] at this
        exact this
    · obtain rfl : b = false := Bool.eq_false_iff.2 (fun h => by have := (HP.out.1 h).1; rw [if_neg he] at this; exact hfl this)
      have hfg : 256 < (N : Int) + 1 + max M 0 := by omega
      clear hfl
      go_wp2_with (first
        | (go_at_call 32; refine (hct _).mono ?_; rintro e w9 ⟨rfl, rfl⟩)
        | fail)
      go_ret
      refine ⟨rfl, ?_⟩
      exact HST.out
end Go.Proofs.YtmldpehkacemfaaGreatDoor
namespace Go.Proofs.YtmldpehkacemfaaGreatDoor
open Go.RowKit Go.Bd
theorem wrap_i64n {n : Int} (h0 : 0 ≤ n) (h1 : n ≤ 1000000000000) : IntKind.i64.wrap n = n := by
  rw [IntKind.wrap_i64]; omega
def FRow (w : World) (g : Nat) (l : List (ByteArray × Bs)) (t : List Value) : Prop := Holds w g 50 (rowFl l ++ t).toArray
theorem rowFl_length (l : List (ByteArray × Bs)) : (rowFl l).length = l.length * 2 := by
  induction l with
  | nil => rfl
  | cons a l ih =>
    have e : rowFl (a :: l) = .string a.1 :: .string ⟨a.2.toArray⟩ :: rowFl l := rfl
    rw [e, List.length_cons, List.length_cons, ih, List.length_cons]; omega
theorem rowFl_set : ∀ (l : List (ByteArray × Bs)) (i : Nat) (f : ByteArray × Bs), rowFl (l.set i f) = ((rowFl l).set (i * 2) (.string f.1)).set (i * 2 + 1) (.string ⟨f.2.toArray⟩)
  | [], i, f => by simp [rowFl]
  | a :: l, 0, f => rfl
  | a :: l, i + 1, f => by
    have e1 : (i + 1) * 2 = i * 2 + 1 + 1 := by omega
    have e : ∀ (b : ByteArray × Bs) (m : List (ByteArray × Bs)), rowFl (b :: m) = .string b.1 :: .string ⟨b.2.toArray⟩ :: rowFl m := fun _ _ => rfl
    rw [List.set_cons_succ, e, rowFl_set l i f, e, e1]
    rfl
section
variable {w : World} {g : Nat} {l : List (ByteArray × Bs)} {t : List Value}
theorem FRow.cell (h : FRow w g l t) {i : Nat} {f : ByteArray × Bs} (hf : l[i]? = some f) : w.cell? ⟨g, i * 2, none⟩ = some (.string f.1) ∧ w.cell? ⟨g, i * 2 + 1, none⟩ = some (.string ⟨f.2.toArray⟩) := by
  have h1 := rowFl_at l i f hf
  have hl := rowFl_length l
  have hi := (List.getElem?_eq_some_iff.1 hf).1
  have e1 := Holds.cell h (i * 2)
  have e2 := Holds.cell h (i * 2 + 1)
  rw [e1, e2]
  simp only [List.getElem?_toArray]
  rw [List.getElem?_append_left (by omega), List.getElem?_append_left (by omega)]
  exact h1
theorem FRow.free (h : FRow w g l t) (j : Nat) : w.frozen? ⟨g, j, none⟩ = false := Holds.free h j
theorem FRow.put (h : FRow w g l t) {i : Nat} (hi : i < l.length) (f : ByteArray × Bs) : FRow ((w.setCell ⟨g, i * 2, none⟩ (.string f.1)).setCell ⟨g, i * 2 + 1, none⟩ (.string ⟨f.2.toArray⟩)) g (l.set i f) t := by
  have hl := rowFl_length l
  have h1 := (Holds.set h (i * 2) (.string f.1)).set (i * 2 + 1) (.string ⟨f.2.toArray⟩)
  unfold FRow
  rw [rowFl_set]
  refine cast ?_ h1
  congr 1
  apply Array.ext'
  simp only [Array.toList_setIfInBounds]
  rw [List.set_append_left _ _ (by omega), List.set_append_left _ _ (by rw [List.length_set]; omega)]
end
def PSt (w0 : World) (g : Nat) (l : List (ByteArray × Bs)) (t : List Value) (w : World) : Prop := ∃ l', l'.Perm l ∧ FRow w g l' t ∧ Chg w0 w (fun k => k = g)
def CmpOk (w0 : World) (g gb : Nat) (l : List (ByteArray × Bs)) : Prop := ∀ W, Chg w0 W (fun k => k = g) → ∀ x ∈ l, ∀ y ∈ l,
  Calls Tryz.prog 25 #[.agg #[.string x.1, .string ⟨x.2.toArray⟩], .agg #[.string y.1, .string ⟨y.2.toArray⟩], .pointer (some ⟨gb, 0, none⟩)] W fun e w' => (∃ i : Int, e = .returned (.int .i64 i)) ∧ Below W.heap.size W w'
theorem perm_swap {l : List (ByteArray × Bs)} {i j : Nat} {x y : ByteArray × Bs} (hx : l[i]? = some x) (hy : l[j]? = some y) : ((l.set i y).set j x).Perm l := by
  obtain ⟨hi, rfl⟩ := List.getElem?_eq_some_iff.1 hx
  obtain ⟨hj, rfl⟩ := List.getElem?_eq_some_iff.1 hy
  exact List.set_set_perm hi hj
theorem PSt.swap {w0 w : World} {g : Nat} {l l' : List (ByteArray × Bs)} {t : List Value} (hp : l'.Perm l) (hF : FRow w g l' t) (hc : Chg w0 w (fun k => k = g)) {i j : Nat} {x y : ByteArray × Bs} (hx : l'[i]? = some x) (hy : l'[j]? = some y) :
    PSt w0 g l t ((((w.setCell ⟨g, i * 2, none⟩ (.string y.1)).setCell ⟨g, i * 2 + 1, none⟩ (.string ⟨y.2.toArray⟩)).setCell ⟨g, j * 2, none⟩ (.string x.1)).setCell ⟨g, j * 2 + 1, none⟩ (.string ⟨x.2.toArray⟩)) := by
  have hi := (List.getElem?_eq_some_iff.1 hx).1
  have hj := (List.getElem?_eq_some_iff.1 hy).1
  refine ⟨_, (perm_swap hx hy).trans hp, (hF.put hi y).put (by rw [List.length_set]; exact hj) x, ?_⟩
  exact hc.trans ((((Chg.set w ⟨g, i * 2, none⟩ _).trans (Chg.set _ ⟨g, i * 2 + 1, none⟩ _) (fun k _ (e : k = g) => e)).trans (Chg.set _ ⟨g, j * 2, none⟩ _) (fun k _ (e : k = g) => e)).trans (Chg.set _ ⟨g, j * 2 + 1, none⟩ _) (fun k _ (e : k = g) => e)) (fun k _ (e : k = g) => e)
theorem PSt.refl {w : World} {g : Nat} {l : List (ByteArray × Bs)} {t : List Value} (hF : FRow w g l t) : PSt w g l t w := ⟨l, List.Perm.refl _, hF, Chg.refl _ _⟩
theorem PSt.then_ {w0 w w' : World} {g : Nat} {l l' : List (ByteArray × Bs)} {t : List Value} (hp : l'.Perm l) (hc : Chg w0 w (fun k => k = g)) (h : PSt w g l' t w') : PSt w0 g l t w' := by
  obtain ⟨l2, h1, h2, h3⟩ := h
  exact ⟨l2, h1.trans hp, h2, hc.trans h3 (fun _ _ h => h)⟩
theorem PSt.later {w0 w w' : World} {g : Nat} {l : List (ByteArray × Bs)} {t : List Value} (h : PSt w0 g l t w) (hb : Below w.heap.size w w') : PSt w0 g l t w' := by
  obtain ⟨l2, h1, h2, h3⟩ := h
  exact ⟨l2, h1, holds_later h2 hb, h3.trans (Chg.below hb (fun _ => False)) (fun _ _ h => h.elim)⟩
theorem PSt.drew {w0 w : World} {g : Nat} {l : List (ByteArray × Bs)} {t : List Value} (h : PSt w0 g l t w) : PSt w0 g l t w.drew := by
  obtain ⟨l2, h1, h2, h3⟩ := h
  exact ⟨l2, h1, h2, h3.drew⟩
theorem FRow.again {w : World} {g : Nat} {l : List (ByteArray × Bs)} {t : List Value} (h : FRow w g l t) {i j : Nat} (hi : i < l.length) (hj : j < l.length) (f : ByteArray × Bs) : ∃ z : ByteArray × ByteArray, ((w.setCell ⟨g, i * 2, none⟩ (.string f.1)).setCell ⟨g, i * 2 + 1, none⟩ (.string ⟨f.2.toArray⟩)).cell? ⟨g, j * 2, none⟩ = some (.string z.1) ∧ ((w.setCell ⟨g, i * 2, none⟩ (.string f.1)).setCell ⟨g, i * 2 + 1, none⟩ (.string ⟨f.2.toArray⟩)).cell? ⟨g, j * 2 + 1, none⟩ = some (.string z.2) := by
  have h2 := h.put hi f
  obtain ⟨y, hy⟩ : ∃ y, (l.set i f)[j]? = some y := ⟨_, List.getElem?_eq_getElem (by rw [List.length_set]; exact hj)⟩
  obtain ⟨h3, h4⟩ := h2.cell hy
  exact ⟨(y.1, ⟨y.2.toArray⟩), h3, h4⟩
set_option maxRecDepth 100000 in
set_option maxHeartbeats 4000000 in
theorem swapRange_any {w : World} {g c : Nat} {l : List (ByteArray × Bs)} {t : List Value} (hF : FRow w g l t) (hl : l.length ≤ 1000000) (hc : l.length ≤ c) (a b n : Nat) (ha : a + n ≤ l.length) (hb : b + n ≤ l.length) (f : Value) :
    Calls Tryz.prog 97 #[.slice (some ⟨g, 0, none⟩) l.length c, .int .i64 (a : Int), .int .i64 (b : Int), .int .i64 (n : Int), f] w fun e w' => e = .returned (.tuple #[]) ∧ PSt w g l t w' := by
  obtain ⟨m, hm⟩ : ∃ m, l.length = m := ⟨_, rfl⟩
  have hP := PSt.refl hF
  rw [hm] at hl hc ha hb ⊢
  have HM := Lib.hid hm
  have HP := Lib.hid hP
  clear hF hm hP
  go_enter Tryz.func97, Tryz.ntmps97
  go_wp2_with fail
  go_loopg [10] n (fun q iv wr => ∃ k : Nat, k + q = n ∧ iv = .int .i64 (k : Int) ∧ Hid (PSt w g l t wr))
  case atStart => exact ⟨0, by omega, rfl, HP⟩
  case round =>
    obtain ⟨k, hk, rfl, HR⟩ := hrel
    by_cases hlt : k < n
    · obtain ⟨l', hp, hF, hch⟩ := HR.out
      have hll : l'.length = m := by rw [hp.length_eq, HM.out]
      obtain ⟨x, hx⟩ : ∃ x, l'[a + k]? = some x := ⟨_, List.getElem?_eq_getElem (by omega)⟩
      obtain ⟨y, hy⟩ : ∃ y, l'[b + k]? = some y := ⟨_, List.getElem?_eq_getElem (by omega)⟩
      obtain ⟨x0, x1⟩ := hF.cell hx
      obtain ⟨y0, y1⟩ := hF.cell hy
      have fr := fun j => hF.free j
      obtain ⟨z, z0, z1⟩ := hF.again (i := a + k) (j := b + k) (by omega) (by omega) y
      obtain ⟨v, v0, v1⟩ := hF.again (i := b + k) (j := a + k) (by omega) (by omega) x
      have fz := fun j => (hF.put (i := a + k) (by omega) y).free j
      have fv := fun j => (hF.put (i := b + k) (by omega) x).free j
      have hS := PSt.swap hp hF hch hx hy
      have hS2 := PSt.swap hp hF hch hy hx
      obtain ⟨gx, hgx⟩ : ∃ gx : ByteArray, ⟨x.2.toArray⟩ = gx := ⟨_, rfl⟩
      obtain ⟨gy, hgy⟩ : ∃ gy : ByteArray, ⟨y.2.toArray⟩ = gy := ⟨_, rfl⟩
      rw [hgx] at x1 hS hS2 v0 v1 fv
      rw [hgy] at y1 hS hS2 z0 z1 fz
      have HS := Lib.hid (And.intro hS hS2)
      clear hp hF hch hll hx hy hS hS2 hgx hgy
      go_wp2_with fail
      go_region
      all_goals (
        go_wp2_with fail
        go_roundg (gk - 1)
        case measure => omega
        case rel => exact ⟨k + 1, by omega, by go_num, Lib.hid (by first | exact HS.out.1 | exact HS.out.1.drew | exact HS.out.2 | exact HS.out.2.drew)⟩)
    · obtain rfl : k = n := by omega
      go_wp2_with fail
      go_end0
      exact ⟨rfl, HR.out⟩
set_option maxRecDepth 100000 in
set_option maxHeartbeats 4000000 in
theorem insertion_any {w : World} {g c : Nat} {l : List (ByteArray × Bs)} {t : List Value} (hF : FRow w g l t) (hl : l.length ≤ 1000000) (hc : l.length ≤ c) {gb : Nat} (hcmp : CmpOk w g gb l) (a b : Nat) (ha : a ≤ l.length) (hb : b ≤ l.length) :
    Calls Tryz.prog 67 #[.slice (some ⟨g, 0, none⟩) l.length c, .int .i64 (a : Int), .int .i64 (b : Int), .func (.func 25) #[] #[.pointer (some ⟨gb, 0, none⟩)]] w fun e w' => e = .returned (.tuple #[]) ∧ PSt w g l t w' := by
  obtain ⟨m, hm⟩ : ∃ m, l.length = m := ⟨_, rfl⟩
  have hP := PSt.refl hF
  rw [hm] at hl hc ha hb ⊢
  have HM := Lib.hid hm
  have HP := Lib.hid hP
  have HC := Lib.hid hcmp
  clear hF hm hP hcmp
  go_enter Tryz.func67, Tryz.ntmps67
  go_wp2_with fail
  go_loopg [8] (b - (a + 1)) (fun q iv wr => ∃ k : Nat, k + q = b - (a + 1) ∧ iv = .int .i64 ((a + 1 + k : Nat) : Int) ∧ Hid (PSt w g l t wr))
  case atStart => exact ⟨0, by omega, by go_num, HP⟩
  case round =>
    obtain ⟨k, hk, rfl, HR0⟩ := hrel
    by_cases hlt : a + 1 + k < b
    · obtain ⟨q1, hq1⟩ : ∃ q1, q1 = gk := ⟨_, rfl⟩
      subst hq1
      obtain ⟨wO, hwO⟩ : ∃ x, x = wr := ⟨_, rfl⟩
      subst hwO
      obtain ⟨i, hi⟩ : ∃ i, a + 1 + k = i := ⟨_, rfl⟩
      rw [hi] at hlt ⊢
      go_wp2_with fail
      go_loopg [9] (i - a) (fun q jv wr => jv = .int .i64 ((a + q : Nat) : Int) ∧ q ≤ i - a ∧ Hid (PSt w g l t wr))
      case atStart => exact ⟨by go_num, by omega, HR0⟩
      case round =>
        obtain ⟨rfl, hqi, HR⟩ := hrel
        by_cases hz : gk = 0
        · subst hz
          simp only [Nat.add_zero]
          go_wp2_with fail
          refine wp_region_held_drew (S := (fun _ => True)) (by kernel_rfl) ?_ (fun hHeld0 => ?_)
          · (try dsimp only)
            first | done | trivial
          refine wpAnyH_take (i := 0) (oi := ⟨some 18, _, _, _, _, _⟩) (v := ?_) rfl (by kernel_rfl) (by kernel_rfl) (by kernel_rfl) (fun _ _ _ h => h) (Or.inl ⟨by kernel_rfl, ?_⟩) (by assumption) ?_
          rotate_left
          · (intro w hSw; (try dsimp only at hSw); go_simp; (first | done | with_reducible rfl))
          (try simp only [Act.put, List.setIfInBounds_toArray, List.set_cons_zero, List.set_cons_succ])
          refine wpAnyH_take (i := 1) (oi := ⟨some 19, _, _, _, _, _⟩) (v := ?_) rfl (by kernel_rfl) (by kernel_rfl) (by kernel_rfl) (fun _ _ _ h => h) (Or.inl ⟨by kernel_rfl, ?_⟩) (by assumption) ?_
          rotate_left
          · (intro w hSw; (try dsimp only at hSw); go_simp; (first | done | with_reducible rfl))
          (try simp only [Act.put, List.setIfInBounds_toArray, List.set_cons_zero, List.set_cons_succ])
          refine wpAnyH_take (i := 2) (oi := ⟨some 20, _, _, _, _, _⟩) (v := ?_) rfl (by kernel_rfl) (by kernel_rfl) (by kernel_rfl) (fun _ _ _ h => h) (Or.inl ⟨by kernel_rfl, ?_⟩) (by assumption) ?_
          rotate_left
          · (intro w hSw; (try dsimp only at hSw); go_simp; (first | done | with_reducible rfl))
          (try simp only [Act.put, List.setIfInBounds_toArray, List.set_cons_zero, List.set_cons_succ])
          refine wpAnyH_take (i := 3) (oi := ⟨some 21, _, _, _, _, _⟩) (v := ?_) rfl (by kernel_rfl) (by kernel_rfl) (by kernel_rfl) (fun _ _ _ h => h) (Or.inl ⟨by kernel_rfl, ?_⟩) (by assumption) ?_
          rotate_left
          · (intro w hSw; (try dsimp only at hSw); go_simp; (first | done | with_reducible rfl))
          (try simp only [Act.put, List.setIfInBounds_toArray, List.set_cons_zero, List.set_cons_succ])
          refine wpAnyH_take (i := 4) (oi := ⟨some 22, _, _, _, _, _⟩) (v := undef) rfl (by kernel_rfl) (by kernel_rfl) (by kernel_rfl) (fun _ _ _ h => h) (Or.inr ⟨by kernel_rfl, rfl⟩) (by assumption) ?_
          (try simp only [Act.put, List.setIfInBounds_toArray, List.set_cons_zero, List.set_cons_succ])
          refine wpAnyH_take (i := 5) (oi := ⟨some 23, _, _, _, _, _⟩) (v := undef) rfl (by kernel_rfl) (by kernel_rfl) (by kernel_rfl) (fun _ _ _ h => h) (Or.inr ⟨by kernel_rfl, rfl⟩) (by assumption) ?_
          (try simp only [Act.put, List.setIfInBounds_toArray, List.set_cons_zero, List.set_cons_succ])
          refine wpAnyH_take (i := 6) (oi := ⟨some 24, _, _, _, _, _⟩) (v := undef) rfl (by kernel_rfl) (by kernel_rfl) (by kernel_rfl) (fun _ _ _ h => h) (Or.inr ⟨by kernel_rfl, rfl⟩) (by assumption) ?_
          (try simp only [Act.put, List.setIfInBounds_toArray, List.set_cons_zero, List.set_cons_succ])
          refine wpAnyH_take (i := 7) (oi := ⟨some 25, _, _, _, _, _⟩) (v := undef) rfl (by kernel_rfl) (by kernel_rfl) (by kernel_rfl) (fun _ _ _ h => h) (Or.inr ⟨by kernel_rfl, rfl⟩) (by assumption) ?_
          (try simp only [Act.put, List.setIfInBounds_toArray, List.set_cons_zero, List.set_cons_succ])
          refine wpAnyH_take (i := 8) (oi := ⟨some 26, _, _, _, _, _⟩) (v := undef) rfl (by kernel_rfl) (by kernel_rfl) (by kernel_rfl) (fun _ _ _ h => h) (Or.inr ⟨by kernel_rfl, rfl⟩) (by assumption) ?_
          (try simp only [Act.put, List.setIfInBounds_toArray, List.set_cons_zero, List.set_cons_succ])
          refine wpAnyH_take (i := 9) (oi := ⟨some 27, _, _, _, _, _⟩) (v := undef) rfl (by kernel_rfl) (by kernel_rfl) (by kernel_rfl) (fun _ _ _ h => h) (Or.inr ⟨by kernel_rfl, rfl⟩) (by assumption) ?_
          (try simp only [Act.put, List.setIfInBounds_toArray, List.set_cons_zero, List.set_cons_succ])
          refine wpAnyH_take (i := 10) (oi := ⟨some 28, _, _, _, _, _⟩) (v := undef) rfl (by kernel_rfl) (by kernel_rfl) (by kernel_rfl) (fun _ _ _ h => h) (Or.inr ⟨by kernel_rfl, rfl⟩) (by assumption) ?_
          (try simp only [Act.put, List.setIfInBounds_toArray, List.set_cons_zero, List.set_cons_succ])
          refine wpAnyH_take (i := 11) (oi := ⟨some 29, _, _, _, _, _⟩) (v := undef) rfl (by kernel_rfl) (by kernel_rfl) (by kernel_rfl) (fun _ _ _ h => h) (Or.inr ⟨by kernel_rfl, rfl⟩) (by assumption) ?_
          (try simp only [Act.put, List.setIfInBounds_toArray, List.set_cons_zero, List.set_cons_succ])
          refine wpAnyH_take (i := 12) (oi := ⟨some 30, _, _, _, _, _⟩) (v := undef) rfl (by kernel_rfl) (by kernel_rfl) (by kernel_rfl) (fun _ _ _ h => h) (Or.inr ⟨by kernel_rfl, rfl⟩) (by assumption) ?_
          (try simp only [Act.put, List.setIfInBounds_toArray, List.set_cons_zero, List.set_cons_succ])
          refine wpAnyH_take (i := 13) (oi := ⟨some 31, _, _, _, _, _⟩) (v := undef) rfl (by kernel_rfl) (by kernel_rfl) (by kernel_rfl) (fun _ _ _ h => h) (Or.inr ⟨by kernel_rfl, rfl⟩) (by assumption) ?_
          (try simp only [Act.put, List.setIfInBounds_toArray, List.set_cons_zero, List.set_cons_succ])
          refine wpAnyH_take (i := 14) (oi := ⟨some 32, _, _, _, _, _⟩) (v := undef) rfl (by kernel_rfl) (by kernel_rfl) (by kernel_rfl) (fun _ _ _ h => h) (Or.inr ⟨by kernel_rfl, rfl⟩) (by assumption) ?_
          (try simp only [Act.put, List.setIfInBounds_toArray, List.set_cons_zero, List.set_cons_succ])
          refine wpAnyH_take (i := 15) (oi := ⟨some 33, _, _, _, _, _⟩) (v := undef) rfl (by kernel_rfl) (by kernel_rfl) (by kernel_rfl) (fun _ _ _ h => h) (Or.inr ⟨by kernel_rfl, rfl⟩) (by assumption) ?_
          (try simp only [Act.put, List.setIfInBounds_toArray, List.set_cons_zero, List.set_cons_succ])
          refine wpAnyH_take (i := 16) (oi := ⟨some 34, _, _, _, _, _⟩) (v := ?_) rfl (by kernel_rfl) (by kernel_rfl) (by kernel_rfl) (fun _ _ _ h => h) (Or.inl ⟨by kernel_rfl, ?_⟩) (by assumption) ?_
          rotate_left
          · (intro w hSw; (try dsimp only at hSw); go_simp; (first | done | with_reducible rfl))
          (try simp only [Act.put, List.setIfInBounds_toArray, List.set_cons_zero, List.set_cons_succ])
          refine wpAnyH_done (by kernel_rfl) ?_ _
          go_wp2_with fail
          go_roundg (q1 - 1)
          case measure => omega
          case rel => exact ⟨k + 1, by omega, by go_num, Lib.hid (by first | exact HR.out | exact HR.out.drew)⟩
        · obtain ⟨q2, rfl⟩ : ∃ q2, gk = q2 + 1 := ⟨gk - 1, by omega⟩
          obtain ⟨j1, hj1⟩ : ∃ j1, a + q2 = j1 := ⟨_, rfl⟩
          have ej : a + (q2 + 1) = j1 + 1 := by omega
          rw [ej]
          have hja : (a : Int) < (j1 : Int) + 1 := by omega
          have hjm : j1 + 1 < m := by omega
          have d1 : 0 ≤ (j1 : Int) + 1 ∧ (j1 : Int) + 1 < (m : Int) := by omega
          have d2 : 0 ≤ (j1 : Int) ∧ (j1 : Int) < (m : Int) := by omega
          have d3 : IntKind.i64.wrap (j1 : Int) = (j1 : Int) := wrap_i64n (by omega) (by omega)
          have d4 : IntKind.i64.wrap ((j1 : Int) + 1) = (j1 : Int) + 1 := wrap_i64n (by omega) (by omega)
          obtain ⟨l', hp, hF', hch⟩ := HR.out
          have hll : l'.length = m := by rw [hp.length_eq, HM.out]
          obtain ⟨x, hx⟩ : ∃ x, l'[j1 + 1]? = some x := ⟨_, List.getElem?_eq_getElem (by omega)⟩
          obtain ⟨y, hy⟩ : ∃ y, l'[j1]? = some y := ⟨_, List.getElem?_eq_getElem (by omega)⟩
          obtain ⟨x0, x1⟩ := hF'.cell hx
          obtain ⟨y0, y1⟩ := hF'.cell hy
          have hcm := fun W (hW : Chg wr W (fun _ => False)) => HC.out W (hch.trans hW (fun _ _ h => h.elim)) x (hp.mem_iff.1 (List.mem_of_getElem? hx)) y (hp.mem_iff.1 (List.mem_of_getElem? hy))
          have hke : ∀ W, Below wr.heap.size wr W → FRow W g l' t ∧ Chg w W (fun k => k = g) := fun W hb => ⟨holds_later hF' hb, hch.trans (Chg.below hb (fun _ => False)) (fun _ _ h => h.elim)⟩
          have HX := Lib.hid (And.intro hx (And.intro hy (And.intro hp hll)))
          obtain ⟨gx, hgx⟩ : ∃ gx : ByteArray, ⟨x.2.toArray⟩ = gx := ⟨_, rfl⟩
          obtain ⟨gy, hgy⟩ : ∃ gy : ByteArray, ⟨y.2.toArray⟩ = gy := ⟨_, rfl⟩
          obtain ⟨nx, hnx⟩ : ∃ nx, x.1 = nx := ⟨_, rfl⟩
          obtain ⟨ny, hny⟩ : ∃ ny, y.1 = ny := ⟨_, rfl⟩
          rw [hgx] at x1
          rw [hgy] at y1
          rw [hnx] at x0
          rw [hny] at y0
          simp only [hgx, hgy, hnx, hny] at hcm
          have HCM := Lib.hid hcm
          have HKE := Lib.hid hke
          have hgl : g < wr.heap.size := Holds.lt hF'
          have HQ := Lib.hid (And.intro hgx (And.intro hgy (And.intro hnx hny)))
          clear hp hF' hch hll hx hy hcm hke hgx hgy hnx hny
          go_wp2_with fail
          refine wp_region_held_drew (S := (fun w' => w'.cell? ⟨g, (j1 + 1) * 2, none⟩ = some (.string nx) ∧ w'.cell? ⟨g, (j1 + 1) * 2 + 1, none⟩ = some (.string gx) ∧ w'.cell? ⟨g, j1 * 2, none⟩ = some (.string ny) ∧ w'.cell? ⟨g, j1 * 2 + 1, none⟩ = some (.string gy))) (by kernel_rfl) ?_ (fun hHeld0 => ?_)
          · (try dsimp only)
            first | exact ⟨x0, x1, y0, y1⟩ | exact ⟨u0, u1, u2, u3⟩
          refine wpAnyH_take (i := 0) (oi := ⟨some 18, _, _, _, _, _⟩) (v := ?_) rfl (by kernel_rfl) (by kernel_rfl) (by kernel_rfl) (fun _ _ _ h => h) (Or.inl ⟨by kernel_rfl, ?_⟩) (by assumption) ?_
          rotate_left
          · (intro w hSw; (try dsimp only at hSw); go_simp; (first | done | with_reducible rfl))
          (try simp only [Act.put, List.setIfInBounds_toArray, List.set_cons_zero, List.set_cons_succ])
          refine wpAnyH_take (i := 1) (oi := ⟨some 19, _, _, _, _, _⟩) (v := ?_) rfl (by kernel_rfl) (by kernel_rfl) (by kernel_rfl) (fun _ _ _ h => h) (Or.inl ⟨by kernel_rfl, ?_⟩) (by assumption) ?_
          rotate_left
          · (intro w hSw; (try dsimp only at hSw); go_simp; (first | done | with_reducible rfl))
          (try simp only [Act.put, List.setIfInBounds_toArray, List.set_cons_zero, List.set_cons_succ])
          refine wpAnyH_take (i := 2) (oi := ⟨some 20, _, _, _, _, _⟩) (v := ?_) rfl (by kernel_rfl) (by kernel_rfl) (by kernel_rfl) (fun _ _ _ h => h) (Or.inl ⟨by kernel_rfl, ?_⟩) (by assumption) ?_
          rotate_left
          · (intro w hSw; (try dsimp only at hSw); go_simp; (first | done | with_reducible rfl))
          (try simp only [Act.put, List.setIfInBounds_toArray, List.set_cons_zero, List.set_cons_succ])
          refine wpAnyH_take (i := 3) (oi := ⟨some 21, _, _, _, _, _⟩) (v := ?_) rfl (by kernel_rfl) (by kernel_rfl) (by kernel_rfl) (fun _ _ _ h => h) (Or.inl ⟨by kernel_rfl, ?_⟩) (by assumption) ?_
          rotate_left
          · (intro w hSw; (try dsimp only at hSw); go_simp; (first | done | with_reducible rfl))
          (try simp only [Act.put, List.setIfInBounds_toArray, List.set_cons_zero, List.set_cons_succ])
          refine wpAnyH_take (i := 4) (oi := ⟨some 22, _, _, _, _, _⟩) (v := ?_) rfl (by kernel_rfl) (by kernel_rfl) (by kernel_rfl) (fun _ _ _ h => h) (Or.inl ⟨by kernel_rfl, ?_⟩) (by assumption) ?_
          rotate_left
          · (intro w hSw; (try dsimp only at hSw); go_simp; (first | done | with_reducible rfl))
          (try simp only [Act.put, List.setIfInBounds_toArray, List.set_cons_zero, List.set_cons_succ])
          refine wpAnyH_take (i := 5) (oi := ⟨some 23, _, _, _, _, _⟩) (v := ?_) rfl (by kernel_rfl) (by kernel_rfl) (by kernel_rfl) (fun _ _ _ h => h) (Or.inl ⟨by kernel_rfl, ?_⟩) (by assumption) ?_
          rotate_left
          · (intro w hSw; (try dsimp only at hSw); go_simp; (first | done | with_reducible rfl))
          (try simp only [Act.put, List.setIfInBounds_toArray, List.set_cons_zero, List.set_cons_succ])
          refine wpAnyH_take (i := 6) (oi := ⟨some 24, _, _, _, _, _⟩) (v := ?_) rfl (by kernel_rfl) (by kernel_rfl) (by kernel_rfl) (fun _ _ _ h => h) (Or.inl ⟨by kernel_rfl, ?_⟩) (by assumption) ?_
          rotate_left
          · (intro w hSw; (try dsimp only at hSw); go_simp; (first | done | with_reducible rfl))
          (try simp only [Act.put, List.setIfInBounds_toArray, List.set_cons_zero, List.set_cons_succ])
          refine wpAnyH_take (i := 7) (oi := ⟨some 25, _, _, _, _, _⟩) (v := ?_) rfl (by kernel_rfl) (by kernel_rfl) (by kernel_rfl) (fun _ _ _ h => h) (Or.inl ⟨by kernel_rfl, ?_⟩) (by assumption) ?_
          rotate_left
          · (intro w hSw; (try dsimp only at hSw); go_simp; (first | done | with_reducible rfl))
          (try simp only [Act.put, List.setIfInBounds_toArray, List.set_cons_zero, List.set_cons_succ])
          refine wpAnyH_take (i := 8) (oi := ⟨some 26, _, _, _, _, _⟩) (v := ?_) rfl (by kernel_rfl) (by kernel_rfl) (by kernel_rfl) (fun _ _ _ h => h) (Or.inl ⟨by kernel_rfl, ?_⟩) (by assumption) ?_
          rotate_left
          · (intro w hSw; (try dsimp only at hSw); go_simp; (first | done | with_reducible rfl))
          (try simp only [Act.put, List.setIfInBounds_toArray, List.set_cons_zero, List.set_cons_succ])
          refine wpAnyH_take (i := 9) (oi := ⟨some 27, _, _, _, _, _⟩) (v := ?_) rfl (by kernel_rfl) (by kernel_rfl) (by kernel_rfl) (fun _ _ _ h => h) (Or.inl ⟨by kernel_rfl, ?_⟩) (by assumption) ?_
          rotate_left
          · (intro w hSw; (try dsimp only at hSw); go_simp; (first | done | with_reducible rfl))
          (try simp only [Act.put, List.setIfInBounds_toArray, List.set_cons_zero, List.set_cons_succ])
          refine wpAnyH_take (i := 10) (oi := ⟨some 28, _, _, _, _, _⟩) (v := ?_) rfl (by kernel_rfl) (by kernel_rfl) (by kernel_rfl) (fun _ _ _ h => h) (Or.inl ⟨by kernel_rfl, ?_⟩) (by assumption) ?_
          rotate_left
          · (intro w hSw; (try dsimp only at hSw); go_simp; (first | done | with_reducible rfl))
          (try simp only [Act.put, List.setIfInBounds_toArray, List.set_cons_zero, List.set_cons_succ])
          refine wpAnyH_take (i := 11) (oi := ⟨some 29, _, _, _, _, _⟩) (v := ?_) rfl (by kernel_rfl) (by kernel_rfl) (by kernel_rfl) (fun _ _ _ h => h) (Or.inl ⟨by kernel_rfl, ?_⟩) (by assumption) ?_
          rotate_left
          · (intro w hSw; (try dsimp only at hSw); go_simp; (first | done | with_reducible rfl))
          (try simp only [Act.put, List.setIfInBounds_toArray, List.set_cons_zero, List.set_cons_succ])
          refine wpAnyH_take (i := 12) (oi := ⟨some 30, _, _, _, _, _⟩) (v := ?_) rfl (by kernel_rfl) (by kernel_rfl) (by kernel_rfl) (fun _ _ _ h => h) (Or.inl ⟨by kernel_rfl, ?_⟩) (by assumption) ?_
          rotate_left
          · (intro w hSw; (try dsimp only at hSw); go_simp; (first | done | with_reducible rfl))
          (try simp only [Act.put, List.setIfInBounds_toArray, List.set_cons_zero, List.set_cons_succ])
          refine wpAnyH_take (i := 13) (oi := ⟨some 31, _, _, _, _, _⟩) (v := ?_) rfl (by kernel_rfl) (by kernel_rfl) (by kernel_rfl) (fun _ _ _ h => h) (Or.inl ⟨by kernel_rfl, ?_⟩) (by assumption) ?_
          rotate_left
          · (intro w hSw; (try dsimp only at hSw); go_simp; (first | done | with_reducible rfl))
          (try simp only [Act.put, List.setIfInBounds_toArray, List.set_cons_zero, List.set_cons_succ])
          refine wpAnyH_ready (rs := [14]) (by kernel_rfl) (by simp) ?_
          refine AllReadyH.cons (o := ⟨some 32, _, _, _, _, _⟩) rfl (fun K hK => ?_) AllReadyH.nil
          go_simp
          refine (HCM.out _ (by first | exact Chg.refl _ _ | exact (Chg.refl _ _).drew)).mono ?_
          rintro e w2 ⟨⟨ci, rfl⟩, hb2'⟩
          have hb2 : Below wr.heap.size wr w2 := by first | exact hb2' | exact ((Below.refl _ wr).drew).trans hb2'
          have HP2 := Lib.hid (HKE.out w2 hb2)
          have u0 := (hb2.cell (p := ⟨g, (j1 + 1) * 2, none⟩) hgl).trans x0
          have u1 := (hb2.cell (p := ⟨g, (j1 + 1) * 2 + 1, none⟩) hgl).trans x1
          have u2 := (hb2.cell (p := ⟨g, j1 * 2, none⟩) hgl).trans y0
          have u3 := (hb2.cell (p := ⟨g, j1 * 2 + 1, none⟩) hgl).trans y1
          clear hb2' hb2
          refine hK.out _ _ ?_ (fun hHeld1 => ?_)
          · (try dsimp only)
            first | exact ⟨x0, x1, y0, y1⟩ | exact ⟨u0, u1, u2, u3⟩
          clear hK K hHeld0
          (try simp only [Act.put, List.setIfInBounds_toArray, List.set_cons_zero, List.set_cons_succ])
          refine wpAnyH_take (i := 15) (oi := ⟨some 33, _, _, _, _, _⟩) (v := ?_) rfl (by kernel_rfl) (by kernel_rfl) (by kernel_rfl) (fun _ _ _ h => h) (Or.inl ⟨by kernel_rfl, ?_⟩) (by assumption) ?_
          rotate_left
          · (intro w hSw; (try dsimp only at hSw); go_simp; (first | done | with_reducible rfl))
          (try simp only [Act.put, List.setIfInBounds_toArray, List.set_cons_zero, List.set_cons_succ])
          refine wpAnyH_take (i := 16) (oi := ⟨some 34, _, _, _, _, _⟩) (v := ?_) rfl (by kernel_rfl) (by kernel_rfl) (by kernel_rfl) (fun _ _ _ h => h) (Or.inl ⟨by kernel_rfl, ?_⟩) (by assumption) ?_
          rotate_left
          · (intro w hSw; (try dsimp only at hSw); go_simp; (first | done | with_reducible rfl))
          (try simp only [Act.put, List.setIfInBounds_toArray, List.set_cons_zero, List.set_cons_succ])
          refine wpAnyH_done (by kernel_rfl) ?_ _
          clear u0 u1 u2 u3
          by_cases hneg : ci < 0
          · clear x0 x1 y0 y1
            obtain ⟨hF', hch⟩ := HP2.out
            have hx := HX.out.1
            have hy := HX.out.2.1
            have hp := HX.out.2.2.1
            have hll := HX.out.2.2.2
            obtain ⟨x0, x1⟩ := hF'.cell hx
            obtain ⟨y0, y1⟩ := hF'.cell hy
            have fr := fun j => hF'.free j
            obtain ⟨z, z0, z1⟩ := hF'.again (i := j1 + 1) (j := j1) (by omega) (by omega) y
            obtain ⟨v, v0, v1⟩ := hF'.again (i := j1) (j := j1 + 1) (by omega) (by omega) x
            have fz := fun j => (hF'.put (i := j1 + 1) (by omega) y).free j
            have fv := fun j => (hF'.put (i := j1) (by omega) x).free j
            have hS := PSt.swap hp hF' hch hx hy
            have hS2 := PSt.swap hp hF' hch hy hx
            rw [HQ.out.1] at x1 hS hS2 v0 v1 fv
            rw [HQ.out.2.1] at y1 hS hS2 z0 z1 fz
            rw [HQ.out.2.2.1] at x0 hS hS2 v0 v1 fv
            rw [HQ.out.2.2.2] at y0 hS hS2 z0 z1 fz
            have HS := Lib.hid (And.intro hS hS2)
            clear hp hF' hch hll hx hy hS hS2
            go_wp2_with fail
            go_region
            all_goals (
              go_wp2_with fail
              go_roundg q2
              case measure => omega
              case rel => exact ⟨by first | go_num | (rw [hj1]; go_num), by omega, Lib.hid (by first | exact HS.out.1 | exact HS.out.1.drew | exact HS.out.2 | exact HS.out.2.drew)⟩)
          · clear x0 x1 y0 y1
            go_wp2_with fail
            go_roundg (q1 - 1)
            case measure => omega
            case rel => exact ⟨k + 1, by omega, by go_num, Lib.hid ⟨l', HX.out.2.2.1, HP2.out.1, HP2.out.2⟩⟩
    · go_wp2_with fail
      go_end0
      exact ⟨rfl, HR0.out⟩
end Go.Proofs.YtmldpehkacemfaaGreatDoor
