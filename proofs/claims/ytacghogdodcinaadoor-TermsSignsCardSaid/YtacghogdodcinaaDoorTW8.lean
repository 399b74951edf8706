/-
  Walks of the library: ContainsAny of any text, the signs being ASCII.
-/
import Derived.Test.YtacghogdodcinaaDoorTW7
import Derived.Lib.OthersKept
namespace Go.Proofs.YtacghogdodcinaaDoor
open Go.RowKit Go.Bd
/-- the bytes of a sign beyond ASCII are all beyond ASCII -/
theorem decode_bytes (s : ByteArray) (p : Nat) (h : p < s.size) (ha : 128 ≤ (s[p]'h).toNat) :
    p + (Utf8.decode s p).2 ≤ s.size ∧ ∀ j (hj : p + j < s.size), j < (Utf8.decode s p).2 → 128 ≤ (s[p + j]'hj).toNat := by
  have hn : ¬ (s[p]'h).toNat < 128 := by omega
  have hg : ∀ k (hk : p + k < s.size), s.get! (p + k) = s[p + k]'hk := fun k hk => by
    show s.get! (p + k) = _
    simp [ByteArray.get!, getElem!_pos, hk]; rfl
  have key : ∀ k, (decide (p + k < s.size) && (s.get! (p + k)).toNat / 64 == 2) = true → p + k < s.size ∧ ∀ hk : p + k < s.size, 128 ≤ (s[p + k]'hk).toNat := by
    intro k hk
    simp only [Bool.and_eq_true, decide_eq_true_eq, beq_iff_eq] at hk
    refine ⟨hk.1, fun hk' => ?_⟩
    have := hk.2
    rw [hg k hk'] at this
    omega
  have h0 : ∀ (hj : p + 0 < s.size), 128 ≤ (s[p + 0]'hj).toNat := fun _ => ha
  simp only [Utf8.decode, get_at s p h, hn, if_false]
  split
  · rename_i c
    simp only [Bool.and_eq_true] at c
    have k1 := key 1 (by simpa using c.2)
    split
    · refine ⟨by omega, fun j hj hl => ?_⟩
      match j, hl with
      | 0, _ => exact h0 hj
      | 1, _ => exact k1.2 hj
    · exact ⟨by omega, fun j hj hl => by obtain rfl : j = 0 := by simpa using hl
                                         exact h0 hj⟩
  · split
    · rename_i c
      simp only [Bool.and_eq_true] at c
      have k1 := key 1 (by simpa using c.1.2)
      have k2 := key 2 (by simpa using c.2)
      split
      · refine ⟨by omega, fun j hj hl => ?_⟩
        match j, hl with
        | 0, _ => exact h0 hj
        | 1, _ => exact k1.2 hj
        | 2, _ => exact k2.2 hj
      · exact ⟨by omega, fun j hj hl => by obtain rfl : j = 0 := by simpa using hl
                                           exact h0 hj⟩
    · split
      · rename_i c
        simp only [Bool.and_eq_true] at c
        have k1 := key 1 (by simpa using c.1.1.2)
        have k2 := key 2 (by simpa using c.1.2)
        have k3 := key 3 (by simpa using c.2)
        split
        · refine ⟨by omega, fun j hj hl => ?_⟩
          match j, hl with
          | 0, _ => exact h0 hj
          | 1, _ => exact k1.2 hj
          | 2, _ => exact k2.2 hj
          | 3, _ => exact k3.2 hj
        · exact ⟨by omega, fun j hj hl => by obtain rfl : j = 0 := by simpa using hl
                                             exact h0 hj⟩
      · exact ⟨by simp; omega, fun j hj hl => by obtain rfl : j = 0 := by simpa using hl
                                                 exact h0 hj⟩
/-- no sign of g ahead of place p -/
def NoSign (s : ByteArray) (g : Bs) (p : Nat) : Prop := p ≤ s.size ∧ ∀ j (h : j < s.size), j < p → g.contains s[j] = false
theorem NoSign.all {s : ByteArray} {g : Bs} (h : NoSign s g s.size) : s.data.toList.any (g.contains ·) = false := by
  rw [List.any_eq_false]
  intro x hx
  obtain ⟨j, hj, rfl⟩ := List.mem_iff_getElem.1 hx
  have := h.2 j (by simpa using hj) (by simpa using hj)
  have e : s.data.toList[j] = s[j]'(by simpa using hj) := rfl
  rw [e, this]; decide
theorem any_hit {s : ByteArray} {g : Bs} {p : Nat} (hp : p < s.size) (h : g.contains s[p] = true) : s.data.toList.any (g.contains ·) = true :=
  List.any_eq_true.2 ⟨s[p], List.getElem_mem (l := s.data.toList) (by simpa using hp), h⟩
theorem NoSign.step {s : ByteArray} {g : Bs} {p : Nat} (h : NoSign s g p) (hp : p < s.size) (h1 : g.contains s[p] = false) : NoSign s g (p + 1) := by
  refine ⟨by omega, fun j hj hjp => ?_⟩
  by_cases e : j = p
  · subst e; exact h1
  · exact h.2 j hj (by omega)
theorem NoSign.jump {s : ByteArray} {g : Bs} {p d : Nat} (h : NoSign s g p) (hd : p + d ≤ s.size) (h1 : ∀ j (hj : p + j < s.size), j < d → 128 ≤ (s[p + j]'hj).toNat) (hg : ∀ b ∈ g, b.toNat < 128) : NoSign s g (p + d) := by
  refine ⟨hd, fun j hj hjp => ?_⟩
  by_cases e : j < p
  · exact h.2 j hj e
  · rw [Bool.eq_false_iff]
    intro hc
    have h2 := hg _ (by simpa using hc)
    obtain ⟨k, rfl⟩ : ∃ k, j = p + k := ⟨j - p, by omega⟩
    have := h1 k hj (by omega)
    omega
/-- it answers an integer that is 0 or more just if there is one -/
def HitPost (hit : Bool) (w : World) (e : Ending) (w' : World) : Prop := ∃ r : Int, decide (0 ≤ r) = hit ∧ e = .returned (.int .i64 r) ∧ Below w.heap.size w w'
set_option maxHeartbeats 400000 in
theorem indexAny_short (s g : ByteArray) (w : World) (hg : ∀ b ∈ g.data.toList, b.toNat < 128) (h4 : 4 ≤ g.size) (h5 : g.size ≤ 200) (h8 : s.size ≤ 8) :
    Calls Tryd.prog 42 #[.string s, .string g] w (HitPost (s.data.toList.any (g.data.toList.contains ·)) w) := by
  have HG := Lib.hid hg
  clear hg
  have hemp : g.toList.isEmpty = false := by
    rw [ByteArray.toList_eq]
    cases h : g.data.toList with
    | nil => have := size_list g; rw [h, List.length_nil] at this; omega
    | cons _ _ => rfl
  have hn1 : ((g.size : Int) == 1) = false := beq_eq_false_iff_ne.2 (by omega)
  have h8z : decide ((8 : Int) < (s.size : Int)) = false := decide_eq_false (by omega)
  go_enter Tryd.func42, Tryd.ntmps42
  go_wp2_with (go_at_call 52; refine (Tryd.strings_shouldUseASCIISet _ _).mono ?_; rintro e w' ⟨rfl, hw⟩; rw [hw, h8z])
  go_loopg [9, 10] s.size (fun n _ _ wx => ∃ p : Nat, p + n = s.size ∧ wx.heap[w.heap.size]? = some (.stringIter s p) ∧ Hid (NoSign s g.data.toList p) ∧ Below w.heap.size w wx)
  case atStart => exact ⟨0, by omega, World.iter_heap _ _ _, ⟨by omega, fun _ _ h => absurd h (by omega)⟩, (Below.refl _ _).alloc (Nat.le_refl _) _⟩
  case round =>
    obtain ⟨p, hpn, hit, HN, hb⟩ := hrel
    cases gk with
    | zero =>
      obtain rfl : p = s.size := by omega
      have hnx := fun ty => Lib.run_next_end_at (P := Tryd.prog) wr w.heap.size s s.size ty hit (by omega)
      go_wp2
      go_ret
      exact ⟨-1, by rw [HN.out.all]; rfl, rfl, hb⟩
    | succ n =>
      have hp : p < s.size := by omega
      by_cases hx : (s[p]'hp).toNat < 128
      · have hnx := fun ty => Lib.run_next_ascii_at (P := Tryd.prog) wr w.heap.size s p ty hit hp hx
        have hcon := Lib.contains_iff_indexByte g.data.toList (s[p]'hp)
        have hback : (((s[p]'hp).toNat : Int)).toNat.toUInt8 = s[p]'hp := by simp
        cases hin : g.data.toList.contains (s[p]'hp)
        · rw [hin] at hcon
          have hlt : Lib.indexByte g.data.toList (s[p]'hp) < 0 := by have := of_decide_eq_false hcon.symm; omega
          clear hcon
          have HI := Lib.hid hin
          clear hin
          go_wp2_with (go_at_call 51; refine (Tryd.strings_IndexRune_ascii _ _ _ (by omega) (by omega)).mono ?_; rintro e w' ⟨rfl, hw⟩; rw [hw, hback])
          go_roundg n
          case measure => omega
          case rel => exact ⟨p + 1, by omega, Lib.iterAt_heap _ _ _ _ _ hit, HN.out.step hp HI.out, Lib.below_iterAt hb (Nat.le_refl _) _ _⟩
        · rw [hin] at hcon
          have hge : 0 ≤ Lib.indexByte g.data.toList (s[p]'hp) := of_decide_eq_true hcon.symm
          clear hcon
          have HI := Lib.hid hin
          clear hin
          go_wp2_with (go_at_call 51; refine (Tryd.strings_IndexRune_ascii _ _ _ (by omega) (by omega)).mono ?_; rintro e w' ⟨rfl, hw⟩; rw [hw, hback])
          go_ret
          exact ⟨(p : Int), by rw [any_hit hp HI.out]; simp, rfl, Lib.below_iterAt hb (Nat.le_refl _) _ _⟩
      · obtain ⟨d1, d2⟩ := decode_high s p hp (by omega)
        obtain ⟨d3, d4⟩ := decode_bytes s p hp (by omega)
        have D4 := Lib.hid d4
        clear d4
        have hnx := fun ty => Lib.run_next_any_at (P := Tryd.prog) wr w.heap.size s p ty hit hp
        generalize hc : (Utf8.decode s p).1 = c at d1 hnx
        generalize hd : (Utf8.decode s p).2 = d at d2 d3 D4 hnx
        clear hc hd
        go_wp2_with (go_at_call 51; refine (indexRune_high _ _ _ HG.out h4 h5 (by omega)).mono ?_; rintro e w2 ⟨rfl, hb2⟩)
        go_roundg (s.size - (p + d))
        case measure => omega
        case rel => exact ⟨p + d, by omega, (hb2.block _ (by rw [Lib.iterAt_size]; exact (Array.getElem?_eq_some_iff.1 hit).1)).trans (Lib.iterAt_heap _ _ _ _ _ hit), HN.out.jump d3 D4.out HG.out, (Lib.below_iterAt hb (Nat.le_refl _) _ _).trans (hb2.mono (by rw [Lib.iterAt_size]; exact hb.size))⟩
end Go.Proofs.YtacghogdodcinaaDoor
