/-
  Walks: Lower, of the letters and of the reference.
-/
import Derived.Test.YtacghogdodcinaaDoorTW3
import Derived.Test.YtacghogdodcinaaDoorMem
namespace Go.Proofs.YtacghogdodcinaaDoor
open Go.RowKit Go.Bd
theorem u8_info : (Tryd.prog.info? 5).map (fun i => (i.zero, i.size, i.bytes)) = some (some (.int .u8 0), 1, 1) := by kernel_rfl
theorem make_bytes (n : Nat) (w : World) (hn : n ≤ 140737488355328) : (Instr.makeSlice 36 (.int .i64 n) (.int .i64 n)).run Tryd.prog w = .ok (.slice (some ⟨w.heap.size, 0, none⟩) n n) (w.alloc (.cells (madeCells #[.int .u8 0] n) 5)) := by
  obtain ⟨i0, hi, hz0, hz1, hz2⟩ := info_parts u8_info
  have h := run_make (P := Tryd.prog) w 36 5 i0 _ Tryd.underlying36 hi hz0 .i64 .i64 n n (by omega) (Int.le_refl _) (by rw [hz2]; omega) (by omega)
  rw [hz1] at h
  simpa [Value.cells] using h
set_option maxHeartbeats 400000 in
theorem lower1_any (c : UInt8) (w : World) :
    Calls Tryd.prog 21 #[.int .u8 c.toNat] w fun e w' => e = .returned (.int .u8 (lowerB c).toNat) ∧ w = w' := by
  have hc := c.toNat_lt
  by_cases h : 65 ≤ c.toNat ∧ c.toNat ≤ 90
  · obtain ⟨h1, h2⟩ := h
    have e : Hid ((c.toNat : Int) + 32 = (lowerB c).toNat) := by
      unfold Hid lowerB; rw [if_pos (by simp [UInt8.le_iff_toNat_le]; omega)]; simp; omega
    go_enter Tryd.func21, Tryd.ntmps21
    go_wp2
    all_goals first | omega | skip
    go_ret
    exact ⟨ret_int e.out, rfl⟩
  · have e : Hid ((c.toNat : Int) = (lowerB c).toNat) := by
      unfold Hid lowerB; rw [if_neg]; simp [UInt8.le_iff_toNat_le]; omega
    go_enter Tryd.func21, Tryd.ntmps21
    go_wp2
    all_goals first | omega | skip
    all_goals
      go_ret
      exact ⟨ret_int e.out, rfl⟩
theorem lower_get {s : ByteArray} {k : Nat} (h : k < s.size) : (lower s.data.toList).getD k 0 = lowerB s[k] := by
  rw [List.getD_eq_getElem?_getD, lower, List.getElem?_map, List.getElem?_eq_getElem (by simpa using h)]; rfl
theorem lower_length (l : Bs) : (lower l).length = l.length := List.length_map _
set_option maxHeartbeats 400000 in
theorem change_any (s : ByteArray) (w : World) (hs : s.size ≤ 140737488355328) :
    Calls Tryd.prog 20 #[.string s, .func (.func 21) #[] #[]] w fun e w' => e = .returned (.string ⟨(lower s.data.toList).toArray⟩) ∧ Below w.heap.size w w' := by
  have hmk := make_bytes s.size w hs
  go_enter Tryd.func20, Tryd.ntmps20
  go_wp2
  go_loopw [6, 12] (fun v i wr => ∃ k : Nat, k ≤ s.size ∧ i = .int .i64 k ∧ Bytes wr w.heap.size 5 s.size k (lower s.data.toList) ∧ Below w.heap.size w wr) (fun _ i _ => s.size - (intOf i).toNat)
  case atStart =>
    have h := Bytes.new w 5 (madeCells #[.int .u8 0] s.size) (lower s.data.toList) (n := s.size) (by simp [size_madeCells])
    exact ⟨0, Nat.zero_le _, rfl, h, (Below.refl _ _).alloc (Nat.le_refl _) _⟩
  case round =>
    obtain ⟨k, hk, rfl, H, hb⟩ := hrel
    by_cases hlt : k < s.size
    · obtain ⟨u, hu⟩ := H.room hlt
      have hf := H.free hlt
      go_wp2_with (go_at_call 21; refine (lower1_any _ _).mono ?_; rintro e w' ⟨rfl, rfl⟩)
      all_goals
        go_roundw
        case rel => exact ⟨k + 1, by omega, by go_num, H.put hlt (by rw [lower_get hlt]; rfl), hb.setCell (Nat.le_refl _) _⟩
        case measure => simp [intOf]; omega
    · obtain rfl : k = s.size := by omega
      have hback := run_bytes_back (P := Tryd.prog) (cap := s.size) Tryd.underlying36 Tryd.underlying5 Tryd.underlying9 H (by rw [lower_length]; simp)
      go_wp2
      go_ret
      exact ⟨rfl, hb⟩
set_option maxHeartbeats 400000 in
theorem lower_any (s : ByteArray) (w : World) (hs : s.size ≤ 140737488355328) :
    Calls Tryd.prog 16 #[.string s] w fun e w' => e = .returned (.string ⟨(lower s.data.toList).toArray⟩) ∧ Below w.heap.size w w' := by
  go_enter Tryd.func16, Tryd.ntmps16
  go_wp2_with (go_at_call 20; refine (change_any _ _ hs).mono ?_; rintro e w1 ⟨rfl, hb⟩)
  go_ret
  exact ⟨rfl, hb⟩
/-- the first k bytes are small already -/
def lowTo (l : Bs) (k : Nat) : Bs := lower (l.take k) ++ l.drop k
theorem lowTo_zero (l : Bs) : lowTo l 0 = l := by simp [lowTo, lower]
theorem lowTo_all (s : ByteArray) : lowTo s.data.toList s.size = lower s.data.toList := by
  rw [lowTo, List.take_of_length_le (by simp), List.drop_of_length_le (by simp), List.append_nil]
theorem lowTo_length (l : Bs) (k : Nat) : (lowTo l k).length = l.length := by
  simp [lowTo, lower]; omega
theorem lowTo_get {s : ByteArray} {k : Nat} (h : k < s.size) : (lowTo s.data.toList k).getD k 0 = s[k] := by
  have hl : k < s.data.toList.length := by simpa using h
  rw [List.getD_eq_getElem?_getD, lowTo, List.getElem?_append_right (by simp [lower]; omega)]
  simp only [lower, List.length_map, List.length_take, Nat.min_eq_left (Nat.le_of_lt hl), Nat.sub_self, List.getElem?_drop, Nat.add_zero, List.getElem?_eq_getElem hl]
  rfl
theorem lowTo_succ {s : ByteArray} {k : Nat} (h : k < s.size) : lowTo s.data.toList (k + 1) = (lowTo s.data.toList k).set k (lowerB s[k]) := by
  have hl : k < s.data.toList.length := by simpa using h
  have e : s[k] = s.data.toList[k] := rfl
  have d : s.data.toList.drop k = s[k] :: s.data.toList.drop (k + 1) := by rw [e]; exact List.drop_eq_getElem_cons hl
  have hk : (lower (s.data.toList.take k)).length = k := by simp [lower]; omega
  rw [lowTo, lowTo, d, List.set_append_right _ _ (by omega), hk, Nat.sub_self, List.set_cons_zero, List.take_succ_eq_append_getElem hl, lower, List.map_append, ← e]
  simp [lower]
theorem lowTo_stay {s : ByteArray} {k : Nat} (h : k < s.size) (hx : lowerB s[k] = s[k]) : lowTo s.data.toList (k + 1) = lowTo s.data.toList k := by
  rw [lowTo_succ h, hx]
  apply List.ext_getElem?
  intro j
  rw [List.getElem?_set]
  by_cases e : k = j
  · subst e
    have := lowTo_get h
    rw [List.getD_eq_getElem?_getD] at this
    rw [if_pos rfl, if_pos (by rw [lowTo_length]; simpa using h)]
    have hlt : k < (lowTo s.data.toList k).length := by rw [lowTo_length]; simpa using h
    rw [List.getElem?_eq_getElem hlt] at this ⊢
    simpa using this.symm
  · rw [if_neg e]
set_option maxHeartbeats 400000 in
theorem refLower_any (s : ByteArray) (w : World) (hs : s.size ≤ 140737488355328) :
    Calls Tryd.prog 19 #[.string s] w fun e w' => e = .returned (.string ⟨(lower s.data.toList).toArray⟩) ∧ Below w.heap.size w w' := by
  obtain ⟨cap, w1, hc, hcap, hb1, hB⟩ := run_bytes_make (P := Tryd.prog) w (src := 9) (dst := 36) s Tryd.underlying9 Tryd.underlying36 Tryd.underlying5
  go_enter Tryd.func19, Tryd.ntmps19
  go_wp2
  go_loopw [4] (fun i wr => ∃ k : Nat, k ≤ s.size ∧ i = .int .i64 k ∧ Bytes wr w.heap.size 5 s.size s.size (lowTo s.data.toList k) ∧ Below w.heap.size w wr) (fun i _ => s.size - (intOf i).toNat)
  case atStart => exact ⟨0, Nat.zero_le _, rfl, by rw [lowTo_zero]; exact hB, hb1⟩
  case round =>
    obtain ⟨k, hk, rfl, H, hb⟩ := hrel
    by_cases hlt : k < s.size
    · have hu : wr.cell? ⟨w.heap.size, k, none⟩ = some (.int .u8 s[k].toNat) := by rw [H.cell hlt, lowTo_get hlt]; rfl
      have hf := H.free hlt
      have hz := s[k].toNat_lt
      by_cases hx : 65 ≤ s[k].toNat ∧ s[k].toNat ≤ 90
      · obtain ⟨hx1, hx2⟩ := hx
        have e : Hid ((s[k].toNat : Int) + 32 = (lowerB s[k]).toNat) := by
          unfold Hid lowerB; rw [if_pos (by simp [UInt8.le_iff_toNat_le]; omega)]; simp; omega
        go_wp2
        all_goals first | omega | skip
        all_goals
          go_roundw
          case rel => exact ⟨k + 1, by omega, by go_num, by rw [lowTo_succ hlt]; exact H.turn hlt (by rw [byteV, ← e.out]) (by rw [lowTo_length]; simp), hb.setCell (Nat.le_refl _) _⟩
          case measure => simp [intOf]; omega
      · have e : Hid (lowerB s[k] = s[k]) := by
          unfold Hid lowerB; rw [if_neg]; simp [UInt8.le_iff_toNat_le]; omega
        go_wp2
        all_goals first | omega | skip
        all_goals
          go_roundw
          case rel => exact ⟨k + 1, by omega, by go_num, by rw [lowTo_stay hlt e.out]; exact H, hb⟩
          case measure => simp [intOf]; omega
    · obtain rfl : k = s.size := by omega
      rw [lowTo_all] at H
      have hback := run_bytes_back (P := Tryd.prog) (cap := cap) Tryd.underlying36 Tryd.underlying5 Tryd.underlying9 H (by rw [lower_length]; simp)
      go_wp2
      go_ret
      exact ⟨rfl, hb⟩
end Go.Proofs.YtacghogdodcinaaDoor
