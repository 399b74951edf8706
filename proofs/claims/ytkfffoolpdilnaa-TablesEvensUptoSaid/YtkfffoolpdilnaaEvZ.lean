/-
  Walks: how much spans have (at a seat without the spans' own functions).
-/
import Derived.Test.YtkfffoolpdilnaaEvB
import Derived.Test.YtkfffoolpdilnaaSiz
namespace Go.Bd
mutual
theorem many_sz1 : ∀ x : Sp, many1 x ≤ sz1 x
  | ⟨_, _, _, _, kids⟩ => by have := many_szL kids; simp only [many1, sz1]; omega
theorem many_szL : ∀ l : List Sp, manyL l ≤ szL l
  | [] => Nat.le_refl _
  | x :: l => by have := many_sz1 x; have := many_szL l; simp only [manyL, szL]; omega
end
end Go.Bd
namespace Go.Proofs.Ytkfffoolpdilnaa
open Go.RowKit Go.Bd
def SizeOk (N : Nat) : Prop := ∀ (l : List Sp), szL l ≤ N → szL l ≤ 1048576 → ∀ (v : Value) (w : World) (B : Nat), Forest w (· < B) v l → B ≤ w.heap.size →
    Calls Try.prog 18 #[v] w fun e w' => e = .returned (.int .i64 (szL l : Int)) ∧ Below B w w'
set_option maxRecDepth 100000 in
set_option maxHeartbeats 2000000 in
theorem size1_any {N : Nat} (ih : SizeOk N) (x : Sp) (hN : szL x.kids ≤ N) (hz : sz1 x ≤ 1048576) (v : Value) (w : World) (B : Nat) (hF : Forest w (· < B) v x.kids) (hB : B ≤ w.heap.size) :
    Calls Try.prog 21 #[.agg #[.int .u8 (x.kind : Int), .string ⟨x.text.toArray⟩, .string ⟨x.sub.toArray⟩, .string ⟨x.see.toArray⟩, v]] w fun e w' => e = .returned (.int .i64 (sz1 x : Int)) ∧ Below B w w' := by
  obtain ⟨A, c, rfl, hc⟩ := hF.len
  have hs := sz1_eq x
  have hal := (Below.refl B w).alloc hB (.cells #[.int .u8 (x.kind : Int), .string ⟨x.text.toArray⟩, .string ⟨x.sub.toArray⟩, .string ⟨x.see.toArray⟩, .slice A x.kids.length c] 43)
  have ci := ih x.kids hN (by omega) _ _ B (hF.under hal (fun _ h => h)) (by simp; omega)
  have HAL := Lib.hid hal
  generalize szL x.kids = kz at ci hs hN
  generalize sz1 x = z at hs hz ⊢
  have z1 : (⟨x.text.toArray⟩ : ByteArray).size = x.text.length := size_mk _
  have z2 : (⟨x.sub.toArray⟩ : ByteArray).size = x.sub.length := size_mk _
  have z3 : (⟨x.see.toArray⟩ : ByteArray).size = x.see.length := size_mk _
  clear hF hal ih
  generalize (⟨x.text.toArray⟩ : ByteArray) = b1 at z1 ci HAL ⊢
  generalize (⟨x.sub.toArray⟩ : ByteArray) = b2 at z2 ci HAL ⊢
  generalize (⟨x.see.toArray⟩ : ByteArray) = b3 at z3 ci HAL ⊢
  have hle : (1 : Int) + b1.size + b2.size + b3.size ≤ 1048576 := by omega
  have hz' : (1 : Int) + b1.size + b2.size + b3.size + kz = z := by omega
  have HZ := Lib.hid hz'
  clear hz' hs
  generalize x.kids.length = kl at ci hc HAL ⊢
  go_enter Try.func21, Try.ntmps21
  go_wp2_with fail
  refine ci.mono ?_
  clear ci
  rintro e w2 ⟨rfl, hb2⟩
  have HB2 := Lib.hid (HAL.out.trans hb2)
  clear hb2
  go_wp2
  go_ret
  have hzz := HZ.out
  rw [z1, z2, z3] at hzz
  exact ⟨by rw [← hzz]; exact congrArg (fun x => Ending.returned (Value.int .i64 x)) (IntWalk.wrap64_in _ (by omega)), HB2.out⟩
set_option maxRecDepth 100000 in
set_option maxHeartbeats 2000000 in
theorem size_step {N : Nat} (ih : ∀ M, M < N → SizeOk M) : SizeOk N := by
  intro l hN hz v w B hF hB
  obtain ⟨A, c, rfl, hc⟩ := hF.len
  have hlm := szL_len l
  have HF := Lib.hid hF
  have HIH := Lib.hid ih
  clear hF ih
  obtain ⟨n, hn⟩ : ∃ n, l.length = n := ⟨_, rfl⟩
  obtain ⟨mm, hmm⟩ : ∃ mm, szL l = mm := ⟨_, rfl⟩
  have HN := Lib.hid hn
  have HMM := Lib.hid hmm
  simp only [hn, hmm] at hc hlm hN hz HF ⊢
  clear hn hmm
  go_enter Try.func18, Try.ntmps18
  go_wp2
  go_loopg [3, 4] n (fun q vn vi wr => ∃ k a : Nat, k + q = n ∧ vi = .int .i64 (k : Int) ∧ vn = .int .i64 (a : Int) ∧ a ≤ mm ∧ Hid (a + k = n + szL (l.take k) ∧ Below B w wr))
  case atStart => exact ⟨0, n, by omega, rfl, rfl, hlm, by simp [szL], Below.refl _ _⟩
  case round =>
    obtain ⟨k, a, hk, rfl, rfl, ham, HR⟩ := hrel
    by_cases hlt : k < n
    · obtain ⟨x, hx⟩ : ∃ x, l[k]? = some x := ⟨_, List.getElem?_eq_getElem (by rw [HN.out]; exact hlt)⟩
      obtain ⟨b1, off, kA, kc, rfl, hb1, hkF, p0, p1, p2, p3, p4⟩ := HF.out.at hx
      have hbl := HR.out.2
      replace p0 := (hbl.cell (p := ⟨b1, off + k * 5, none⟩) hb1).trans p0
      replace p1 := (hbl.cell (p := ⟨b1, off + k * 5 + 1, none⟩) hb1).trans p1
      replace p2 := (hbl.cell (p := ⟨b1, off + k * 5 + 2, none⟩) hb1).trans p2
      replace p3 := (hbl.cell (p := ⟨b1, off + k * 5 + 3, none⟩) hb1).trans p3
      replace p4 := (hbl.cell (p := ⟨b1, off + k * 5 + 4, none⟩) hb1).trans p4
      have hgt := sz_get hx
      rw [HMM.out] at hgt
      have hrb := hbl.size
      have htk := szL_take hx
      have hbd : szL (l.take (k + 1)) + n ≤ mm + (k + 1) := by
        have e := szL_app (l.take (k + 1)) (l.drop (k + 1))
        rw [List.take_append_drop, HMM.out] at e
        have h2 := szL_len (l.drop (k + 1))
        rw [List.length_drop, HN.out] at h2
        omega
      have hx1 := sz1_eq x
      have ci := size1_any (HIH.out (szL x.kids) (by omega)) x (Nat.le_refl _) (by omega) _ wr B (hkF.under hbl (fun _ h => h)) (by omega)
      have hsum : a + sz1 x + (k + 1) = n + szL (l.take (k + 1)) := by have := HR.out.1; omega
      have HSM := Lib.hid hsum
      have ham2 : a + sz1 x ≤ mm := by omega
      have ham3 : (a : Int) ≤ 1048576 := by omega
      generalize sz1 x = mk at ci ham2 HSM
      clear hx hkF hbl htk hbd hgt hsum hx1
      go_wp2_with fail
      refine ci.mono ?_
      clear ci
      rintro e w2 ⟨rfl, hb2⟩
      have HB2 := Lib.hid (HR.out.2.trans hb2)
      clear hb2
      go_wp2
      go_roundg (gk - 1)
      case measure => omega
      case rel => exact ⟨k + 1, a + mk, by omega, by go_num, by go_num, ham2, HSM.out, HB2.out⟩
    · obtain rfl : k = n := by omega
      have ha : a = mm := by
        have h1 := HR.out.1
        rw [List.take_of_length_le (by rw [HN.out]; exact Nat.le_refl _), HMM.out] at h1
        omega
      subst ha
      go_wp2
      go_ret
      exact ⟨rfl, HR.out.2⟩
theorem size_any (N : Nat) : SizeOk N := by
  induction N using Nat.strongRecOn with
  | _ N ih => exact size_step ih
end Go.Proofs.Ytkfffoolpdilnaa
