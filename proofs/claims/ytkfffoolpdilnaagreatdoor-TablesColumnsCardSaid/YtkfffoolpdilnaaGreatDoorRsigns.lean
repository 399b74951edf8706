/-
  Walks: Signs of the tables' reference.
-/
import Derived.Test.YtkfffoolpdilnaaGreatDoorRsign
namespace Go.Proofs.YtkfffoolpdilnaaGreatDoor
open Go.RowKit Go.Bd
theorem get_list (s : ByteArray) (i : Nat) : s.get! i = s.data.toList.getD i 0 := by
  show s.data[i]! = _
  rw [List.getD_eq_getElem?_getD, Array.getElem?_toList, getElem!_def]
  cases s.data[i]? <;> rfl
theorem decode_drop {s t : ByteArray} {pos : Nat} (h : t.data.toList = s.data.toList.drop pos) (hp : pos ≤ s.size) : (Utf8.decode s pos).2 = wid1 t := by
  have hz : t.size = s.size - pos := by rw [size_list, size_list, h, List.length_drop]
  rw [wid1_eq, Lib.decode_at, hz]
  have e : ∀ i, t.get! i = s.get! (pos + i) := fun i => by
    rw [get_list, get_list, h, List.getD_eq_getElem?_getD, List.getD_eq_getElem?_getD, List.getElem?_drop]
  rw [e 0, e 1, e 2, e 3]
  simp only [Nat.add_zero]
theorem wid1_le {t : ByteArray} (h : 0 < t.size) : 1 ≤ wid1 t ∧ wid1 t ≤ t.size := by
  refine ⟨Lib.decode_width_pos t 0 h, ?_⟩
  rw [wid1_eq]
  unfold Lib.decodeN
  (repeat' split) <;> simp only <;> omega
set_option maxRecDepth 100000 in
set_option maxHeartbeats 1000000 in
theorem refSigns_any (s : ByteArray) (w : World) (hs : s.size ≤ 140737488355328) :
    Calls Tryz.prog 28 #[.string s] w fun e w' => e = .returned (.int .i64 (sg s)) ∧ w' = w := by
  unfold sg
  go_enter Tryz.func28, Tryz.ntmps28
  go_wp2
  go_loopg [0, 3] s.size (fun b vs n wx => ∃ (pos acc : Nat) (t : ByteArray), vs = .string t ∧ n = .int .i64 (acc : Int) ∧ Hid (t.data.toList = s.data.toList.drop pos ∧ acc + Lib.runeCountFrom s b pos = Lib.runeCount s ∧ t.size + pos = s.size) ∧ s.size ≤ pos + b ∧ acc ≤ pos ∧ pos ≤ s.size ∧ wx = w)
  case atStart => exact ⟨0, 0, s, rfl, rfl, ⟨by simp, by simp [Lib.runeCount], by omega⟩, by omega, Nat.le_refl _, Nat.zero_le _, rfl⟩
  case round =>
    obtain ⟨pos, acc, t, rfl, rfl, H, hb, ha, hp0, rfl⟩ := hrel
    by_cases hp : pos < s.size
    · have ht : 0 < t.size := by have := H.out.2.2; omega
      have hts : t.size ≤ s.size := by have := H.out.2.2; omega
      have hw := wid1_le ht
      have hdd := Lib.hid (decode_drop H.out.1 hp0)
      have cs := sign_any t wr ht (by omega)
      have HX : ∀ k, k = wid1 t → Hid ((t.extract k t.size).data.toList = s.data.toList.drop (pos + k) ∧ (t.extract k t.size).size + (pos + k) = s.size) := fun k hk => by
        have e1 := H.out.2.2
        refine ⟨?_, by simp; omega⟩
        rw [extract_list, List.take_of_length_le (by simp), H.out.1, List.drop_drop]
      have HX2 := Lib.hid (HX _ rfl).out
      clear HX
      generalize hk : wid1 t = k at cs hw hdd HX2
      clear hk
      go_wp2_with (go_at_call 93; refine cs.mono ?_; rintro e w1 ⟨rfl, rfl⟩)
      go_roundg (gk - 1)
      case measure => omega
      case rel =>
        refine ⟨pos + k, acc + 1, t.extract k t.size, rfl, by go_num, ⟨HX2.out.1, ?_, HX2.out.2⟩, by omega, by omega, by have := H.out.2.2; omega, rfl⟩
        rw [← H.out.2.1]
        obtain ⟨b, rfl⟩ : ∃ b, gk = b + 1 := ⟨gk - 1, by omega⟩
        simp [Lib.runeCountFrom, hp, hdd.out]
        omega
    · have ht : ¬ 0 < t.size := by have := H.out.2.2; omega
      have hac := H.out.2.1
      rw [Lib.runeCountFrom_end s gk pos hp, Nat.add_zero] at hac
      have HA := Lib.hid hac
      clear hac H
      go_wp2
      go_ret
      rw [← HA.out]
      exact ⟨rfl, rfl⟩
end Go.Proofs.YtkfffoolpdilnaaGreatDoor
