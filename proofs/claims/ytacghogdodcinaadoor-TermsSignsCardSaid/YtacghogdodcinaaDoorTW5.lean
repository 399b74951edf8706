/-
  Walks: Key.
-/
import Derived.Test.YtacghogdodcinaaDoorTW4
import Derived.BigQuiet
import Derived.Deep.QuietTactic
import Derived.Deep.LoopGhost
import Derived.WalkMore
namespace Go.Proofs.YtacghogdodcinaaDoor
open Go.RowKit Go.Bd
def beg : Nat → ByteArray | 0 => ⟨#[116, 104, 101, 32]⟩ | 1 => ⟨#[97, 32]⟩ | _ => ⟨#[97, 110, 32]⟩
theorem beg_at (j : Nat) (hj : j < 3) (w : World) : (Instr.index 32 (.agg #[.string ⟨#[116, 104, 101, 32]⟩, .string ⟨#[97, 32]⟩, .string ⟨#[97, 110, 32]⟩]) (.int .i64 j)).run Tryd.prog w = .ok (.string (beg j)) w := by
  match j, hj with
  | 0, _ => exact (by kernel_rfl : (Instr.index 32 (.agg #[.string ⟨#[116, 104, 101, 32]⟩, .string ⟨#[97, 32]⟩, .string ⟨#[97, 110, 32]⟩]) (.int .i64 0)).run Tryd.prog w = .ok (.string ⟨#[116, 104, 101, 32]⟩) w)
  | 1, _ => exact (by kernel_rfl : (Instr.index 32 (.agg #[.string ⟨#[116, 104, 101, 32]⟩, .string ⟨#[97, 32]⟩, .string ⟨#[97, 110, 32]⟩]) (.int .i64 1)).run Tryd.prog w = .ok (.string ⟨#[97, 32]⟩) w)
  | 2, _ => exact (by kernel_rfl : (Instr.index 32 (.agg #[.string ⟨#[116, 104, 101, 32]⟩, .string ⟨#[97, 32]⟩, .string ⟨#[97, 110, 32]⟩]) (.int .i64 2)).run Tryd.prog w = .ok (.string ⟨#[97, 110, 32]⟩) w)
theorem beg_size (j : Nat) : 2 ≤ (beg j).size ∧ (beg j).size ≤ 4 := by
  match j with
  | 0 => decide
  | 1 => decide
  | _ + 2 => exact (by decide : 2 ≤ (beg 2).size ∧ (beg 2).size ≤ 4)
/-- the bytes ahead of place k are alike -/
def Alike (s b : ByteArray) (k : Nat) : Prop := ∀ j, j < k → s.data.toList[j]? = b.data.toList[j]?
def key (l : Bs) : Bs :=
  if (beg 0).data.toList.isPrefixOf (lower l) then (lower l).drop 4
  else if (beg 1).data.toList.isPrefixOf (lower l) then (lower l).drop 2
  else if (beg 2).data.toList.isPrefixOf (lower l) then (lower l).drop 3
  else lower l
theorem Alike.zero (s b : ByteArray) : Alike s b 0 := fun _ h => absurd h (by omega)
theorem Alike.size {s b : ByteArray} {k : Nat} (h : Alike s b k) (hk : k ≤ b.size) : k ≤ s.size := by
  rcases Nat.eq_zero_or_pos k with e | e
  · omega
  · have := h (k - 1) (by omega)
    rw [List.getElem?_eq_getElem (l := b.data.toList) (by have := size_list b; omega)] at this
    have h2 := (List.getElem?_eq_some_iff.1 this).1
    have := size_list s
    omega
theorem Alike.succ {s b : ByteArray} {k : Nat} (h : Alike s b k) (hs : k < s.size) (hb : k < b.size) (e : (s[k].toNat : Int) = b[k].toNat) : Alike s b (k + 1) := by
  intro j hj
  by_cases hjk : j = k
  · subst hjk
    rw [List.getElem?_eq_getElem (l := s.data.toList) (by simpa using hs), List.getElem?_eq_getElem (l := b.data.toList) (by simpa using hb)]
    have : s[j] = b[j] := UInt8.toNat_inj.1 (by omega)
    exact congrArg some this
  · exact h j (by omega)
theorem isPrefixOf_iff (b l : Bs) : b.isPrefixOf l = true ↔ l.take b.length = b := by
  rw [List.isPrefixOf_iff_prefix, List.prefix_iff_eq_take]; exact eq_comm
theorem Alike.whole {s b : ByteArray} (h : Alike s b b.size) : b.data.toList.isPrefixOf s.data.toList = true := by
  rw [isPrefixOf_iff]
  apply List.ext_getElem?
  intro j
  rw [List.getElem?_take]
  split
  · exact h j (by have := size_list b; omega)
  · rw [List.getElem?_eq_none (by omega)]
theorem no_prefix {s b : ByteArray} {k : Nat} (hb : k < b.size) (h : ∀ hs : k < s.size, ¬ (s[k].toNat : Int) = b[k].toNat) : b.data.toList.isPrefixOf s.data.toList = false := by
  rw [Bool.eq_false_iff]
  intro hp
  rw [isPrefixOf_iff] at hp
  have h1 : b.data.toList[k]? = some b[k] := List.getElem?_eq_getElem (l := b.data.toList) (by simpa using hb)
  rw [← hp, List.getElem?_take, if_pos (by simpa using hb)] at h1
  obtain ⟨hs, e⟩ := List.getElem?_eq_some_iff.1 h1
  exact h (by simpa using hs) (by have e' : s[k]'(by simpa using hs) = b[k] := e; rw [e'])
theorem key_hit {l : Bs} {j : Nat} (hj : j < 3) (h : ∀ i, i < j → (beg i).data.toList.isPrefixOf (lower l) = false) (hp : (beg j).data.toList.isPrefixOf (lower l) = true) : key l = (lower l).drop (beg j).size := by
  match j, hj with
  | 0, _ => rw [key, if_pos hp]; rfl
  | 1, _ => rw [key, if_neg (by rw [h 0 (by omega)]; decide), if_pos hp]; rfl
  | 2, _ => rw [key, if_neg (by rw [h 0 (by omega)]; decide), if_neg (by rw [h 1 (by omega)]; decide), if_pos hp]; rfl
theorem key_none {l : Bs} (h : ∀ i, i < 3 → (beg i).data.toList.isPrefixOf (lower l) = false) : key l = lower l := by
  rw [key, if_neg (by rw [h 0 (by omega)]; decide), if_neg (by rw [h 1 (by omega)]; decide), if_neg (by rw [h 2 (by omega)]; decide)]
theorem not_upto {p : Nat → Bool} {j : Nat} (h : ∀ i, i < j → p i = false) (hj : p j = false) : ∀ i, i < j + 1 → p i = false := by
  intro i hi
  by_cases e : i = j
  · subst e; exact hj
  · exact h i (by omega)
set_option maxHeartbeats 400000 in
theorem key_any (s : ByteArray) (w : World) (hs : s.size ≤ 140737488355328) :
    Calls Tryd.prog 12 #[.string s] w fun e w' => e = .returned (strV (key s.data.toList)) ∧ Below w.heap.size w w' := by
  obtain ⟨t, ht⟩ : ∃ t : ByteArray, t = ⟨(lower s.data.toList).toArray⟩ := ⟨_, rfl⟩
  have hts : t.size ≤ 140737488355328 := by rw [ht, size_mk, lower_length, ← size_list]; exact hs
  have hl := lower_any s w hs
  rw [← ht] at hl
  have Ht := Lib.hid ht
  clear ht
  go_enter Tryd.func12, Tryd.ntmps12
  go_wp2
  go_step3
  go_wp2_with (go_at_call 16; refine hl.mono ?_; rintro e w1 ⟨rfl, hb⟩)
  go_step3
  go_wp2
  go_loopg [10] 3 (fun g v wr => ∃ j : Nat, j + g = 3 ∧ v = .int .i64 j ∧ Hid (∀ i, i < j → (beg i).data.toList.isPrefixOf t.data.toList = false) ∧ Below w.heap.size w wr)
  case atStart => exact ⟨0, rfl, rfl, fun i hi => by omega, hb⟩
  case round =>
    obtain ⟨j, hj, rfl, H, hbr⟩ := hrel
    obtain ⟨gO, hgO⟩ : ∃ g, g = gk := ⟨_, rfl⟩
    subst hgO
    by_cases hlt : j < 3
    · have hi := beg_at j hlt
      obtain ⟨hb2, hb4⟩ := beg_size j
      obtain ⟨b, hbe⟩ : ∃ b, b = beg j := ⟨_, rfl⟩
      rw [← hbe] at hi hb2 hb4
      have Hb := Lib.hid hbe
      clear hbe
      go_wp2
      go_loopg [15] b.size (fun g2 v wr => ∃ k : Nat, k + g2 = b.size ∧ v = .int .i64 k ∧ Alike t b k ∧ Below w.heap.size w wr)
      case atStart => exact ⟨0, by omega, rfl, .zero _ _, hbr⟩
      case round =>
        obtain ⟨k, hk, rfl, HA, hbq⟩ := hrel
        by_cases hkb : k < b.size
        · by_cases h1 : t.size ≤ k
          · have hno : Hid ((beg j).data.toList.isPrefixOf t.data.toList = false) := by
              rw [← Hb.out]; exact no_prefix hkb (fun h => by omega)
            go_wp2
            go_quiet (fail)
            go_wp2
            go_roundg (gO - 1)
            case measure => omega
            case rel => exact ⟨j + 1, by omega, by go_num, not_upto H.out hno.out, below_drewN hbq _⟩
          · by_cases h2 : (t[k].toNat : Int) = (b[k].toNat : Int)
            · go_wp2
              go_quiet (fail)
              go_wp2
              go_roundg (gk - 1)
              case measure => omega
              case rel => exact ⟨k + 1, by omega, by go_num, HA.succ (by omega) hkb h2, below_drewN hbq _⟩
            · have h3 : ((t[k].toNat : Int) == (b[k].toNat : Int)) = false := by simpa using h2
              have h4 : ((t[k].toNat : Int) != (b[k].toNat : Int)) = true := by simpa using h2
              have hno : Hid ((beg j).data.toList.isPrefixOf t.data.toList = false) := by
                rw [← Hb.out]; exact no_prefix hkb (fun h => h2)
              clear h2
              have h1k : k < t.size := by omega
              go_wp2
              go_quiet (fail)
              go_wp2
              go_roundg (gO - 1)
              case measure => omega
              case rel => exact ⟨j + 1, by omega, by go_num, not_upto H.out hno.out, below_drewN hbq _⟩
        · obtain rfl : k = b.size := by omega
          have hz := HA.size (Nat.le_refl _)
          go_wp2
          rw [Exit.noGoto_ret]
          go_ret
          refine ⟨?_, hbq⟩
          have ht := Ht.out
          have hbe := Hb.out
          have hp := HA.whole
          subst hbe
          have e := key_hit hlt (l := s.data.toList) (by subst ht; exact H.out) (by subst ht; exact hp)
          rw [e, strV]
          refine ret_str ?_
          rw [extract_list, take_rest, ht]
    · obtain rfl : j = 3 := by omega
      go_wp2
      rw [Exit.noGoto_ret]
      go_ret
      refine ⟨?_, hbr⟩
      have ht := Ht.out
      subst ht
      exact congrArg (fun l => Ending.returned (strV l)) (key_none H.out).symm
end Go.Proofs.YtacghogdodcinaaDoor
