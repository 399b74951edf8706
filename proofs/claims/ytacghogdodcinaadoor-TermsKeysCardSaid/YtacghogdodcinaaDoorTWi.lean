/-
  Walks: the law TermsKeys.
-/
import Derived.Test.YtacghogdodcinaaDoorTWg
namespace Go.Proofs.YtacghogdodcinaaDoor
open Go.RowKit Go.Bd
theorem lowerB_twice (c : UInt8) : lowerB (lowerB c) = lowerB c := by
  unfold lowerB
  by_cases h : 65 ≤ c ∧ c ≤ 90
  · rw [if_pos h, if_neg]
    have h1 : 65 ≤ c.toNat := UInt8.le_iff_toNat_le.1 h.1
    have h2 : c.toNat ≤ 90 := UInt8.le_iff_toNat_le.1 h.2
    simp only [UInt8.le_iff_toNat_le, UInt8.toNat_add]
    intro ⟨_, h3⟩
    have e32 : (32 : UInt8).toNat = 32 := rfl
    have e90 : (90 : UInt8).toNat = 90 := rfl
    omega
  · rw [if_neg h]; exact if_neg h
theorem lower_twice (l : Bs) : lower (lower l) = lower l := by
  unfold lower
  rw [List.map_map]
  apply List.map_congr_left
  intro c _
  exact lowerB_twice c
theorem key_drop (l : Bs) : ∃ d, d ≤ l.length ∧ key l = (lower l).drop d := by
  have hp : ∀ (b : Bs), b.isPrefixOf (lower l) = true → b.length ≤ l.length := by
    intro b hb
    have := (List.isPrefixOf_iff_prefix.1 hb).length_le
    rwa [lower_length] at this
  unfold key
  split
  · exact ⟨4, hp (beg 0).data.toList ‹_›, rfl⟩
  · split
    · exact ⟨2, hp (beg 1).data.toList ‹_›, rfl⟩
    · split
      · exact ⟨3, hp (beg 2).data.toList ‹_›, rfl⟩
      · exact ⟨0, Nat.zero_le _, rfl⟩
theorem lower_key (l : Bs) : lower (key l) = key l := by
  obtain ⟨d, _, e⟩ := key_drop l
  rw [e]
  have : lower ((lower l).drop d) = (lower (lower l)).drop d := by unfold lower; rw [List.map_drop]
  rw [this, lower_twice]
theorem key_lower (l : Bs) : key (lower l) = key l := by unfold key; rw [lower_twice]
theorem beg0 : (beg 0).data.toList = [116, 104, 101, 32] := rfl
theorem beg1 : (beg 1).data.toList = [97, 32] := rfl
theorem beg2 : (beg 2).data.toList = [97, 110, 32] := rfl
theorem key_the (l : Bs) : key ([116, 104, 101, 32] ++ l) = lower l := by
  have e : lower ([116, 104, 101, 32] ++ l) = [116, 104, 101, 32] ++ lower l := by unfold lower; rw [List.map_append]; rfl
  unfold key
  rw [e, beg0, if_pos (List.isPrefixOf_iff_prefix.2 ⟨lower l, rfl⟩)]; rfl
theorem key_a (l : Bs) : key ([65, 32] ++ l) = lower l := by
  have e : lower ([65, 32] ++ l) = 97 :: 32 :: lower l := by unfold lower; rw [List.map_append]; rfl
  unfold key
  rw [e, beg0, beg1, if_neg, if_pos]
  · rfl
  · exact List.isPrefixOf_iff_prefix.2 ⟨lower l, rfl⟩
  · show ¬ List.isPrefixOf [116, 104, 101, 32] (97 :: 32 :: lower l) = true
    rw [List.isPrefixOf]; simp
theorem key_an (l : Bs) : key ([97, 110, 32] ++ l) = lower l := by
  have e : lower ([97, 110, 32] ++ l) = 97 :: 110 :: 32 :: lower l := by unfold lower; rw [List.map_append]; rfl
  unfold key
  rw [e, beg0, beg1, beg2, if_neg, if_neg, if_pos]
  · rfl
  · exact List.isPrefixOf_iff_prefix.2 ⟨lower l, rfl⟩
  · show ¬ List.isPrefixOf [97, 32] (97 :: 110 :: 32 :: lower l) = true
    simp [List.isPrefixOf]
  · show ¬ List.isPrefixOf [116, 104, 101, 32] (97 :: 110 :: 32 :: lower l) = true
    simp [List.isPrefixOf]
set_option maxHeartbeats 2000000 in
theorem termsKeys_any (s : ByteArray) (m : Int) (w : World) (hm : w.cell? ⟨0, 0, none⟩ = some (.int .i64 m)) (hs : s.size ≤ 140737488355328) :
    Calls Tryd.prog 7 #[.string s] w fun e w' => e = .returned (.bool true) ∧ Below w.heap.size w w' := by
  have hw0 := block_lt_of_cell hm
  have k := fun {W : World} (h : Below w.heap.size w W) => (h.cell (p := ⟨0, 0, none⟩) hw0).trans hm
  have B := fun W => beyond_one s.size W hs
  by_cases hbig : 1048576 < s.size
  · rw [decide_eq_true hbig] at B
    go_enter Tryd.func7, Tryd.ntmps7
    go_wp2_with fail
    refine (alive_any m w hm).mono ?_
    rintro e w1 ⟨rfl, hb⟩
    go_wp2_with (go_at_call 9; refine (B _).mono ?_; rintro e w' ⟨rfl, rfl⟩)
    replace hb := hb.alloc hb.size (.cells #[.int .i64 s.size] 3)
    refine (alive_any m _ (k hb)).mono ?_
    rintro e w2 ⟨rfl, hb2⟩
    go_wp2
    go_ret
    exact ⟨rfl, hb.trans (hb2.mono hb.size)⟩
  · rw [decide_eq_false hbig] at B
    obtain ⟨kk, hkk⟩ : ∃ kk : ByteArray, kk.data.toList = key s.data.toList := ⟨⟨(key s.data.toList).toArray⟩, rfl⟩
    obtain ⟨ll, hll⟩ : ∃ ll : ByteArray, ll.data.toList = lower s.data.toList := ⟨⟨(lower s.data.toList).toArray⟩, rfl⟩
    have ek : strV (key s.data.toList) = .string kk := by rw [← hkk, strV, ← mk_of rfl]
    have el : strV (lower s.data.toList) = .string ll := by rw [← hll, strV, ← mk_of rfl]
    obtain ⟨d, hd, hdk⟩ := key_drop s.data.toList
    have hlz : ll.size = s.size := by rw [size_list, hll, lower_length, ← size_list]
    have hdz : s.size = d + kk.size := by
      have h1 : kk.size = (key s.data.toList).length := by rw [size_list, hkk]
      have h2 : s.data.toList.length = s.size := by simp
      rw [hdk, List.length_drop, lower_length] at h1
      omega
    have K0 : ∀ W, Calls Tryd.prog 12 #[.string s] W fun e w' => e = .returned (.string kk) ∧ Below W.heap.size W w' := fun W => by
      have := key_any s W hs; rw [ek] at this; exact this
    have L2 : ∀ W, Calls Tryd.prog 16 #[.string s] W fun e w' => e = .returned (.string ll) ∧ Below W.heap.size W w' := fun W => by
      have := lower_any s W hs; change Calls _ _ _ _ (fun e w' => e = .returned (strV _) ∧ _) at this; rw [el] at this; exact this
    have L1 : ∀ W, Calls Tryd.prog 16 #[.string kk] W fun e w' => e = .returned (.string kk) ∧ Below W.heap.size W w' := fun W => by
      have := lower_any kk W (by omega); change Calls _ _ _ _ (fun e w' => e = .returned (strV _) ∧ _) at this; rw [hkk, lower_key, ek] at this; exact this
    have K2 : ∀ W, Calls Tryd.prog 12 #[.string ll] W fun e w' => e = .returned (.string kk) ∧ Below W.heap.size W w' := fun W => by
      have := key_any ll W (by omega); rw [hll, key_lower, ek] at this; exact this
    have K3 : ∀ W, Calls Tryd.prog 12 #[.string ((⟨#[116, 104, 101, 32]⟩ : ByteArray) ++ s)] W fun e w' => e = .returned (.string ll) ∧ Below W.heap.size W w' := fun W => by
      have h4 : (⟨#[116, 104, 101, 32]⟩ : ByteArray).size = 4 := rfl
      have := key_any ((⟨#[116, 104, 101, 32]⟩ : ByteArray) ++ s) W (by rw [ByteArray.size_append]; omega)
      rw [show ((⟨#[116, 104, 101, 32]⟩ : ByteArray) ++ s).data.toList = [116, 104, 101, 32] ++ s.data.toList from by simp, key_the, el] at this; exact this
    have K4 : ∀ W, Calls Tryd.prog 12 #[.string ((⟨#[65, 32]⟩ : ByteArray) ++ s)] W fun e w' => e = .returned (.string ll) ∧ Below W.heap.size W w' := fun W => by
      have h4 : (⟨#[65, 32]⟩ : ByteArray).size = 2 := rfl
      have := key_any ((⟨#[65, 32]⟩ : ByteArray) ++ s) W (by rw [ByteArray.size_append]; omega)
      rw [show ((⟨#[65, 32]⟩ : ByteArray) ++ s).data.toList = [65, 32] ++ s.data.toList from by simp, key_a, el] at this; exact this
    have K5 : ∀ W, Calls Tryd.prog 12 #[.string ((⟨#[97, 110, 32]⟩ : ByteArray) ++ s)] W fun e w' => e = .returned (.string ll) ∧ Below W.heap.size W w' := fun W => by
      have h4 : (⟨#[97, 110, 32]⟩ : ByteArray).size = 3 := rfl
      have := key_any ((⟨#[97, 110, 32]⟩ : ByteArray) ++ s) W (by rw [ByteArray.size_append]; omega)
      rw [show ((⟨#[97, 110, 32]⟩ : ByteArray) ++ s).data.toList = [97, 110, 32] ++ s.data.toList from by simp, key_an, el] at this; exact this
    have hcut : ll.extract d ll.size = kk := by
      have : (ll.extract d ll.size).data.toList = kk.data.toList := by rw [extract_list, take_rest, hll, hkk, hdk]
      rw [mk_of this, ← mk_of rfl]
    have hdl : d ≤ ll.size := by omega
    have hkl : kk.size ≤ s.size := by omega
    have hsub : (s.size : Int) - (kk.size : Int) = (d : Int) := by omega
    clear hkk hll ek el hd hdk hlz hdz
    go_enter Tryd.func7, Tryd.ntmps7
    go_wp2_with fail
    refine (alive_any m w hm).mono ?_
    rintro e w1 ⟨rfl, hb⟩
    go_wp2_with (go_at_call 9; refine (B _).mono ?_; rintro e w' ⟨rfl, rfl⟩)
    replace hb := hb.alloc hb.size (.cells #[.int .i64 s.size] 3)
    clear B hm k
    refine (K0 _).mono ?_
    rintro e v0 ⟨rfl, hc0⟩
    replace hc0 := hb.trans (hc0.mono hb.size)
    clear hb
    go_wp2_with fail
    refine (L1 _).mono ?_
    rintro e v1 ⟨rfl, hc1⟩
    replace hc1 := hc0.trans (hc1.mono hc0.size)
    clear hc0
    go_wp2_with fail
    refine (L2 _).mono ?_
    rintro e v2 ⟨rfl, hc2⟩
    replace hc2 := hc1.trans (hc2.mono hc1.size)
    clear hc1
    go_wp2_with fail
    refine (K2 _).mono ?_
    rintro e v3 ⟨rfl, hc3⟩
    replace hc3 := hc2.trans (hc3.mono hc2.size)
    clear hc2
    go_wp2_with fail
    refine (L2 _).mono ?_
    rintro e v4 ⟨rfl, hc4⟩
    replace hc4 := hc3.trans (hc4.mono hc3.size)
    clear hc3
    go_wp2_with fail
    refine (K3 _).mono ?_
    rintro e v5 ⟨rfl, hc5⟩
    replace hc5 := hc4.trans (hc5.mono hc4.size)
    clear hc4
    go_wp2_with fail
    refine (L2 _).mono ?_
    rintro e v6 ⟨rfl, hc6⟩
    replace hc6 := hc5.trans (hc6.mono hc5.size)
    clear hc5
    go_wp2_with fail
    refine (K4 _).mono ?_
    rintro e v7 ⟨rfl, hc7⟩
    replace hc7 := hc6.trans (hc7.mono hc6.size)
    clear hc6
    go_wp2_with fail
    refine (L2 _).mono ?_
    rintro e v8 ⟨rfl, hc8⟩
    replace hc8 := hc7.trans (hc8.mono hc7.size)
    clear hc7
    go_wp2_with fail
    refine (K5 _).mono ?_
    rintro e v9 ⟨rfl, hc9⟩
    replace hc9 := hc8.trans (hc9.mono hc8.size)
    clear hc8
    go_wp2_with fail
    refine (L2 _).mono ?_
    rintro e v10 ⟨rfl, hc10⟩
    replace hc10 := hc9.trans (hc10.mono hc9.size)
    clear hc9
    go_wp2_with fail
    go_ret
    exact ⟨rfl, hc10⟩
end Go.Proofs.YtacghogdodcinaaDoor
