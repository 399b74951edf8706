/-
  Walks: signs, the wider of two, sizes.
-/
import Derived.Test.YtkfffoolpdilnaaGreatDoorGP
import Derived.Test.YtkfffoolpdilnaaGreatDoorVec
import Derived.Test.YtkfffoolpdilnaaGreatDoorChecked
import Derived.Test.YtkfffoolpdilnaaGreatDoorMem
import Derived.Lib.RuneCount
import Derived.Laws.RangeAny
import Derived.IntWalk
import Derived.Deep.Light
import Derived.Handy
import Derived.Lib.Hide
import Derived.BigQuiet
import Derived.Deep.LoopGhost
import Derived.Below
import Derived.WalkKit
namespace Go.Proofs.YtkfffoolpdilnaaGreatDoor
open Go.RowKit Go.Bd
theorem ret_bool {a b : Bool} (h : a = b) : Ending.returned (.bool a) = .returned (.bool b) := by rw [h]
theorem ba_ext {s t : ByteArray} (h : s.data.toList = t.data.toList) : s = t := by
  cases s; cases t
  rw [ByteArray.mk.injEq]
  exact Array.toList_inj.1 h
theorem ba_ne {s t : ByteArray} (h : ¬ s = t) : (s.toList == t.toList) = false := by
  rw [ByteArray.toList_eq, ByteArray.toList_eq]
  exact beq_eq_false_iff_ne.2 fun e => h (ba_ext e)
theorem ba_nonempty {s : ByteArray} (h : ¬ s = ⟨#[]⟩) : s.toList.isEmpty = false := by
  rw [ByteArray.toList_eq]
  cases e : s.data.toList with
  | nil => exact absurd (ba_ext (t := ⟨#[]⟩) e) h
  | cons a l => rfl
/-- the slice v holds these texts -/
def Texts (w : World) (B : Nat) (v : Value) (xs : List ByteArray) : Prop := Rd w B v (xs.map Value.string)
/-- the slice v holds these rows of texts -/
def Grid (w : World) (B : Nat) (v : Value) (ls : List (List ByteArray)) : Prop := ∃ vs, Rd w B v vs ∧ vs.length = ls.length ∧ ∀ (j : Nat) r, ls[j]? = some r → ∃ rv, vs[j]? = some rv ∧ Texts w B rv r
theorem Texts.below {w w' : World} {B : Nat} {v : Value} {xs : List ByteArray} (h : Texts w B v xs) (hb : Below B w w') : Texts w' B v xs := Rd.below h hb
theorem Texts.more {w : World} {B B' : Nat} {v : Value} {xs : List ByteArray} (h : Texts w B v xs) (hB : B ≤ B') : Texts w B' v xs := Rd.more h hB
theorem Grid.below {w w' : World} {B : Nat} {v : Value} {ls : List (List ByteArray)} (h : Grid w B v ls) (hb : Below B w w') : Grid w' B v ls := by
  obtain ⟨vs, h, hl, hr⟩ := h
  exact ⟨vs, h.below hb, hl, fun j r hj => by obtain ⟨rv, h1, h2⟩ := hr j r hj; exact ⟨rv, h1, h2.below hb⟩⟩
theorem Grid.more {w : World} {B B' : Nat} {v : Value} {ls : List (List ByteArray)} (h : Grid w B v ls) (hB : B ≤ B') : Grid w B' v ls := by
  obtain ⟨vs, h, hl, hr⟩ := h
  exact ⟨vs, h.more hB, hl, fun j r hj => by obtain ⟨rv, h1, h2⟩ := hr j r hj; exact ⟨rv, h1, h2.more hB⟩⟩
/-- as the walk wants them -/
theorem Texts.form {w : World} {B : Nat} {v : Value} {xs : List ByteArray} (h : Texts w B v xs) : ∃ A c, v = .slice A xs.length c ∧ xs.length ≤ c ∧ ∀ (j : Nat) s, xs[j]? = some s → ∃ b off, A = some ⟨b, off, none⟩ ∧ b < B ∧ w.cell? ⟨b, off + j, none⟩ = some (.string s) := by
  obtain ⟨A, c, hv, hc, h⟩ := Rd.form h
  rw [List.length_map] at hv hc
  exact ⟨A, c, hv, hc, fun j s hj => h j _ (by rw [List.getElem?_map, hj]; rfl)⟩
theorem Grid.form {w : World} {B : Nat} {v : Value} {ls : List (List ByteArray)} (h : Grid w B v ls) : ∃ A c, v = .slice A ls.length c ∧ ls.length ≤ c ∧ ∀ (j : Nat) r, ls[j]? = some r → ∃ b off rA rc, A = some ⟨b, off, none⟩ ∧ b < B ∧ w.cell? ⟨b, off + j, none⟩ = some (.slice rA r.length rc) ∧ Texts w B (.slice rA r.length rc) r := by
  obtain ⟨vs, hr, hl, h⟩ := h
  obtain ⟨A, c, hv, hc, hf⟩ := hr.form
  rw [hl] at hv hc
  refine ⟨A, c, hv, hc, fun j r hj => ?_⟩
  obtain ⟨rv, h1, h2⟩ := h j r hj
  obtain ⟨b, off, e1, e2, e3⟩ := hf j rv h1
  obtain ⟨rA, rc, e4, e5, _⟩ := h2.form
  subst e4
  exact ⟨b, off, rA, rc, e1, e2, e3, h2⟩
set_option maxRecDepth 100000 in
theorem signs_any (s : ByteArray) (w : World) (hs : s.size ≤ 140737488355328) :
    Calls Tryz.prog 24 #[.string s] w fun e w' => e = .returned (.int .i64 (sg s)) ∧ Below w.heap.size w w' := by
  unfold sg
  go_enter Tryz.func24, Tryz.ntmps24
  go_wp2
  go_loopg [3] s.size (fun b n wx => ∃ pos acc : Nat, wx = w.iter s pos ∧ n = .int .i64 acc ∧ Hid (acc + Lib.runeCountFrom s b pos = Lib.runeCount s) ∧ s.size ≤ pos + b ∧ acc ≤ pos)
  case atStart => exact ⟨0, 0, rfl, rfl, by unfold Hid; simp [Lib.runeCount], by omega, Nat.le_refl _⟩
  case round =>
    obtain ⟨pos, acc, rfl, rfl, hc, hb, ha⟩ := hrel
    by_cases hp : pos < s.size
    · have hnx : ∀ ty, (Instr.next (.pointer (some ⟨w.heap.size, 0, none⟩)) true ty).run Tryz.prog (w.iter s pos) = _ := fun ty => run_next_any w s pos ty hp
      have hwd := Lib.decode_width_pos s pos hp
      go_wp2
      go_roundg (gk - 1)
      case measure => omega
      case rel =>
        refine ⟨pos + (Utf8.decode s pos).2, acc + 1, rfl, by go_num, ?_, by omega, by omega⟩
        unfold Hid
        rw [← hc.out]
        obtain ⟨b, rfl⟩ : ∃ b, gk = b + 1 := ⟨gk - 1, by omega⟩
        simp [Lib.runeCountFrom, hp]
        omega
    · have hnx : ∀ ty, (Instr.next (.pointer (some ⟨w.heap.size, 0, none⟩)) true ty).run Tryz.prog (w.iter s pos) = _ := fun ty => run_next_end w s pos ty hp
      go_wp2
      go_ret
      have := hc.out
      rw [Lib.runeCountFrom_end s gk pos hp, Nat.add_zero] at this
      subst this
      exact ⟨rfl, (Below.refl _ _).alloc (Nat.le_refl _) _⟩
set_option maxRecDepth 100000 in
theorem join_any (m : Nat) (s : ByteArray) (w : World) (hs : s.size ≤ 140737488355328) :
    Calls Tryz.prog 23 #[.int .i64 m, .string s] w fun e w' => e = .returned (.int .i64 (max m (sg s) : Nat)) ∧ Below w.heap.size w w' := by
  have c := signs_any s w hs
  have hl := sg_le s
  generalize sg s = n at c hl ⊢
  go_enter Tryz.func23, Tryz.ntmps23
  go_wp2_with (go_at_call 24; refine c.mono ?_; rintro e w1 ⟨rfl, hb⟩)
  · go_ret
    have e : max m n = n := by omega
    rw [e]
    exact ⟨rfl, hb⟩
  · go_ret
    have e : max m n = m := by omega
    rw [e]
    exact ⟨rfl, hb⟩
end Go.Proofs.YtkfffoolpdilnaaGreatDoor
