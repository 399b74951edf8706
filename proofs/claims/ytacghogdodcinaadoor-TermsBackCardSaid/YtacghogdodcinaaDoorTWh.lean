/-
  Walks: the law TermsBack.
-/
import Derived.Test.YtacghogdodcinaaDoorTWg
namespace Go.Proofs.YtacghogdodcinaaDoor
open Go.RowKit Go.Bd
theorem textV_cases (la lb lc : Bs) : (parseB (textL la lb lc) = some (la, lb, lc) ∧ textV la lb lc = .tuple #[strV (textL la lb lc), .int .i64 0]) ∨ textV la lb lc = .tuple #[strV [], .int .i64 1] := by
  by_cases h : parseB (textL la lb lc) = some (la, lb, lc)
  · exact .inl ⟨h, by rw [textV, if_pos h]⟩
  · exact .inr (by rw [textV, if_neg h])
/-- widen, of the first k bytes -/
def wideTo (l : Bs) (k : Nat) : Bs := widen (l.take k)
theorem wideTo_succ {s : ByteArray} {k : Nat} (hk : k < s.size) : wideTo s.data.toList (k + 1) = wideTo s.data.toList k ++ widen [s[k]] := by
  have hl : k < s.data.toList.length := by simpa using hk
  rw [wideTo, wideTo, List.take_succ_eq_append_getElem hl, widen_app]; rfl
theorem widen_le (l : Bs) : (widen l).length ≤ 4 * l.length := by
  unfold widen
  induction l with
  | nil => simp
  | cons x l ih =>
    rw [List.flatMap_cons, List.length_append, List.length_cons]
    split
    · simp only [List.length_cons, List.length_nil]; omega
    · simp only [List.length_cons, List.length_nil]; omega
theorem widen_sign {c : UInt8} (h : (c.toNat : Int) = 59 ∨ (c.toNat : Int) = 62) : widen [c] = [32, 9, c, 32] := by
  unfold widen
  rw [List.flatMap_cons, if_pos]
  · rfl
  · rcases h with h | h
    · exact .inl (UInt8.toNat_inj.1 (by simpa using (by omega : c.toNat = 59)))
    · exact .inr (UInt8.toNat_inj.1 (by simpa using (by omega : c.toNat = 62)))
theorem widen_other {c : UInt8} (h : ¬ ((c.toNat : Int) = 59 ∨ (c.toNat : Int) = 62)) : widen [c] = [c] := by
  unfold widen
  rw [List.flatMap_cons, if_neg]
  · rfl
  · rintro (e | e)
    · exact h (.inl (by rw [e]; rfl))
    · exact h (.inr (by rw [e]; rfl))
theorem slice_one {s : ByteArray} {k : Nat} (hk : k < s.size) : (s.extract k (k + 1)).data.toList = [s[k]] := by
  rw [extract_list]
  have hl : k < s.data.toList.length := by simpa using hk
  rw [List.drop_eq_getElem_cons hl, show k + 1 - k = 1 from by omega]; rfl
theorem parse_wide (x : ByteArray) (l : Bs) (hx : x.data.toList = l) (hl : l.length ≤ 960) (m : Int) (W : World) (hW : W.cell? ⟨0, 0, none⟩ = some (.int .i64 m)) :
    Calls Tryd.prog 15 #[.string ((⟨#[32]⟩ : ByteArray) ++ x ++ (⟨#[9]⟩ : ByteArray))] W fun e w' => e = .returned (parseV (32 :: l ++ [9])) ∧ Below W.heap.size W w' := by
  have hz : x.size = l.length := by rw [size_list, hx]
  have h1 : (⟨#[32]⟩ : ByteArray).size = 1 := rfl
  have h2 : (⟨#[9]⟩ : ByteArray).size = 1 := rfl
  have h := Parse_any ((⟨#[32]⟩ : ByteArray) ++ x ++ (⟨#[9]⟩ : ByteArray)) m W (by rw [ByteArray.size_append, ByteArray.size_append, h1, h2]; omega) hW
  have e : ((⟨#[32]⟩ : ByteArray) ++ x ++ (⟨#[9]⟩ : ByteArray)).data.toList = 32 :: l ++ [9] := by simp [hx]
  rw [e] at h
  exact h
theorem take_one {s : ByteArray} {k : Nat} (hk : k < s.size) : List.take 1 (List.drop k s.data.toList) = [s[k]] := by
  have hl : k < s.data.toList.length := by simpa using hk
  rw [List.drop_eq_getElem_cons hl]; rfl
set_option maxHeartbeats 2000000 in
theorem termsBack_any (a b c : ByteArray) (m : Int) (w : World) (hm : w.cell? ⟨0, 0, none⟩ = some (.int .i64 m)) (ha : a.size ≤ 140737488355328) (hb : b.size ≤ 140737488355328) (hc : c.size ≤ 140737488355328) :
    Calls Tryd.prog 4 #[.string a, .string b, .string c] w fun e w' => e = .returned (.bool true) ∧ Below w.heap.size w w' := by
  have hw0 := block_lt_of_cell hm
  have k := fun {W : World} (h : Below w.heap.size w W) => (h.cell (p := ⟨0, 0, none⟩) hw0).trans hm
  have B := fun W => beyond_three a.size b.size c.size W ha hb hc
  by_cases hbig : 1048576 < a.size + b.size + c.size
  · rw [decide_eq_true hbig] at B
    go_enter Tryd.func4, Tryd.ntmps4
    go_wp2_with fail
    refine (alive_any m w hm).mono ?_
    rintro e w1 ⟨rfl, hb1⟩
    go_wp2_with (go_at_call 9; refine (B _).mono ?_; rintro e w' ⟨rfl, rfl⟩)
    replace hb1 := hb1.alloc hb1.size (.cells #[.int .i64 a.size, .int .i64 b.size, .int .i64 c.size] 3)
    refine (alive_any m _ (k hb1)).mono ?_
    rintro e w2 ⟨rfl, hb2⟩
    go_wp2
    go_ret
    exact ⟨rfl, hb1.trans (hb2.mono hb1.size)⟩
  · rw [decide_eq_false hbig] at B
    have T1 := fun W h => Text_any a b c W m h ha hb hc
    rcases textV_cases a.data.toList b.data.toList c.data.toList with ⟨hp, hv⟩ | hv
    · rw [hv] at T1
      clear hv
      have hlen := (parseB_told hp).2
      have hwide := @told_wide a.data.toList b.data.toList c.data.toList hp
      generalize textL a.data.toList b.data.toList c.data.toList = tl at hp hlen T1 hwide
      obtain ⟨t, ht⟩ : ∃ t : ByteArray, t.data.toList = tl := ⟨⟨tl.toArray⟩, rfl⟩
      subst ht
      have et : strV t.data.toList = .string t := by rw [strV, ← mk_of rfl]
      rw [et] at T1
      clear et
      have htz : t.size ≤ 240 := by simpa using hlen
      clear hlen
      have P1 := fun W h => Parse_any t m W (by omega) h
      rw [parseV_some hp] at P1
      have ea : strV a.data.toList = .string a := by rw [strV, ← mk_of rfl]
      have eb : strV b.data.toList = .string b := by rw [strV, ← mk_of rfl]
      have ec : strV c.data.toList = .string c := by rw [strV, ← mk_of rfl]
      rw [ea, eb, ec] at P1
      have hwl : (widen t.data.toList).length ≤ 960 := by
        have := widen_le t.data.toList
        have h2 : t.data.toList.length = t.size := by simp
        omega
      clear ea eb ec
      have HP := Lib.hid hp
      have HW := Lib.hid hwide
      clear hp hwide
      go_enter Tryd.func4, Tryd.ntmps4
      go_wp2_with fail
      refine (alive_any m w hm).mono ?_
      rintro e w1 ⟨rfl, hb1⟩
      go_wp2_with (go_at_call 9; refine (B _).mono ?_; rintro e w' ⟨rfl, rfl⟩)
      replace hb1 := hb1.alloc hb1.size (.cells #[.int .i64 a.size, .int .i64 b.size, .int .i64 c.size] 3)
      refine (T1 _ (k hb1)).mono ?_
      rintro e w2 ⟨rfl, hb2⟩
      replace hb2 := hb1.trans (hb2.mono hb1.size)
      clear hb1 B T1
      go_wp2
      go_loopg [9, 10] t.size (fun g v i wr => ∃ (j : Nat) (x : ByteArray), j + g = t.size ∧ i = .int .i64 j ∧ v = .string x ∧ x.size ≤ 4 * j ∧ Hid (x.data.toList = wideTo t.data.toList j) ∧ w2 = wr)
      case atStart => exact ⟨0, ⟨#[]⟩, by omega, rfl, rfl, Nat.le_refl _, by unfold Hid wideTo; simp [widen], rfl⟩
      case round =>
        obtain ⟨j, x, hj, rfl, rfl, hx4, HX, rfl⟩ := hrel
        by_cases hlt : j < t.size
        · have HS := Lib.hid (wideTo_succ hlt)
          have H1 := Lib.hid (slice_one hlt)
          have H2 := Lib.hid (take_one hlt)
          have H1z : (t.extract j (j + 1)).size ≤ 1 := by rw [size_list, H1.out]; simp
          have q1 : ((⟨#[32, 9]⟩ : ByteArray)).size ≤ 2 := by decide
          have q2 : ((⟨#[32]⟩ : ByteArray)).size ≤ 1 := by decide
          by_cases hsg : (t[j].toNat : Int) = 59 ∨ (t[j].toNat : Int) = 62
          · have HG := Lib.hid (widen_sign hsg)
            rcases hsg with h59 | h62
            all_goals
              go_wp2
              all_goals
                go_roundg (gk - 1)
                case measure => omega
                case rel =>
                  refine ⟨j + 1, _, by omega, by go_num, rfl, by simp only [ByteArray.size_append]; omega, ?_, rfl⟩
                  unfold Hid
                  rw [HS.out, HG.out, ← HX.out]
                  simp [H2.out]
          · have HG := Lib.hid (widen_other hsg)
            have n59 : ((t[j].toNat : Int) == 59) = false := by simp; omega
            have n62 : ((t[j].toNat : Int) == 62) = false := by simp; omega
            clear hsg
            go_wp2
            go_roundg (gk - 1)
            case measure => omega
            case rel =>
              refine ⟨j + 1, _, by omega, by go_num, rfl, by simp only [ByteArray.size_append]; omega, ?_, rfl⟩
              unfold Hid
              rw [HS.out, HG.out, ← HX.out]
              simp [H2.out]
        · have HX2 : Hid (x.data.toList = widen t.data.toList) := by
            unfold Hid; rw [HX.out, wideTo, List.take_of_length_le (by simp; omega)]
          clear HX
          have P2 := fun W h => parse_wide x _ HX2.out hwl m W h
          go_wp2_with fail
          refine (P1 _ (k hb2)).mono ?_
          rintro e w3 ⟨rfl, hb3⟩
          replace hb3 := hb2.trans (hb3.mono hb2.size)
          clear hb2 P1
          go_wp2_with fail
          by_cases hbg : 238 < x.size
          · refine (P2 _ (k hb3)).mono ?_
            obtain ⟨r1, r2, r3, r4, hr⟩ : ∃ r1 r2 r3 r4, parseV (32 :: widen t.data.toList ++ [9]) = .tuple #[.string r1, .string r2, .string r3, .int .i64 r4] := by
              unfold parseV
              split
              · exact ⟨_, _, _, _, rfl⟩
              · exact ⟨_, _, _, _, rfl⟩
            rw [hr]
            clear hr P2
            rintro e w4 ⟨rfl, hb4⟩
            go_wp2
            go_ret
            exact ⟨rfl, hb3.trans (hb4.mono hb3.size)⟩
          · have hv2 : parseV (32 :: widen t.data.toList ++ [9]) = .tuple #[.string a, .string b, .string c, .int .i64 0] := by
              have hz : (widen t.data.toList).length = x.size := by rw [← HX2.out]; simp
              rw [parseV_some (HW.out (by simp; omega)), strV, strV, strV, ← mk_of rfl, ← mk_of rfl, ← mk_of rfl]
            rw [hv2] at P2
            clear hv2
            refine (P2 _ (k hb3)).mono ?_
            clear P2
            rintro e w4 ⟨rfl, hb4⟩
            go_wp2
            go_ret
            exact ⟨rfl, hb3.trans (hb4.mono hb3.size)⟩
    · rw [hv, strV] at T1
      clear hv
      go_enter Tryd.func4, Tryd.ntmps4
      go_wp2_with fail
      refine (alive_any m w hm).mono ?_
      rintro e w1 ⟨rfl, hb1⟩
      go_wp2_with (go_at_call 9; refine (B _).mono ?_; rintro e w' ⟨rfl, rfl⟩)
      replace hb1 := hb1.alloc hb1.size (.cells #[.int .i64 a.size, .int .i64 b.size, .int .i64 c.size] 3)
      refine (T1 _ (k hb1)).mono ?_
      rintro e w2 ⟨rfl, hb2⟩
      go_wp2
      go_ret
      exact ⟨rfl, hb1.trans (hb2.mono hb1.size)⟩
end Go.Proofs.YtacghogdodcinaaDoor
