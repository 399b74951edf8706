/-
  What the chapter's laws share, part 4: plain facts, memory, and walks of functions. Its conditions: those that each theorem names.
-/
import Derived.Shelf.Strings.BuilderK
import Derived.Lib.SplitLaws
import Derived.IntWalk
import Derived.Handy
import Derived.Deep.LoopGhost
import Derived.Laws.AppendOwnNone
import Derived.Deep.AppendLies
import Derived.Test.YtcjmfjccjhdgjaaGreatDoorKP3
set_option linter.unusedSimpArgs false
set_option linter.unusedVariables false
namespace Go.Bd
def esc : Bs → Bs
  | [] => []
  | c :: l => if escB c = true then 92 :: c :: esc l else c :: esc l
mutual
def put1 : Sp → Option Bs
  | ⟨k, t, u, v, kids⟩ =>
    if k = 0 then some (esc t)
    else if k = 1 then (putL kids).map fun b => 42 :: (b ++ [42])
    else if k = 2 then (putL kids).map fun b => 95 :: (b ++ [95])
    else if k = 3 then some (96 :: (t ++ [96]))
    else if k = 4 then some (60 :: 60 :: (t ++ [62, 62]))
    else if k = 5 then (if parseB (textL t u v) = some (t, u, v) then some (40 :: 40 :: (textL t u v ++ [41, 41])) else none)
    else if k = 6 then (putL kids).map fun b => 94 :: 91 :: (b ++ [93])
    else none
def putL : List Sp → Option Bs
  | [] => some []
  | x :: l => (put1 x).bind fun a => (putL l).map fun b => a ++ b
end
mutual
def same1 : Sp → Sp → Bool
  | ⟨k, t, u, v, kids⟩, ⟨k', t', u', v', kids'⟩ => k == k' && (t == t' && (u == u' && (v == v' && sameL kids kids')))
def sameL : List Sp → List Sp → Bool
  | [], [] => true
  | x :: l, y :: m => same1 x y && sameL l m
  | _, _ => false
end
def textOf (l : List Sp) : Option Bs :=
  match putL l with
  | none => none
  | some s => if faultsAt s = [] ∧ sameL (spansOf s) l = true then some s else none
theorem step_esc {s : Bs} {i : Nat} (st : Pst) (hi : i + 1 < s.length) (h : s.getD i 0 = 92) (he : escB (s.getD (i + 1) 0) = true) : st.step s i = (st.write [s.getD (i + 1) 0], i + 2) := by
  unfold Pst.step
  rw [if_pos ⟨h, hi, he⟩]
mutual
theorem same1_eq : ∀ (x y : Sp), same1 x y = true ↔ x = y
  | ⟨k, t, u, v, kids⟩, ⟨k', t', u', v', kids'⟩ => by
    simp only [same1, Bool.and_eq_true, beq_iff_eq, Sp.mk.injEq, sameL_eq kids kids']
theorem sameL_eq : ∀ (l m : List Sp), sameL l m = true ↔ l = m
  | [], [] => by simp [sameL]
  | [], y :: m => by simp [sameL]
  | x :: l, [] => by simp [sameL]
  | x :: l, y :: m => by
    simp only [sameL, Bool.and_eq_true, same1_eq x y, sameL_eq l m, List.cons.injEq]
end
end Go.Bd
namespace Go.Proofs.YtcjmfjccjhdgjaaGreatDoor
open Go.RowKit Go.Bd
theorem Bld.later {B b : Nat} {l : Bs} {w w' : World} (h : Bld B b l w) (hb : Below w.heap.size w w') : Bld B b l w' := by
  have st : ∀ p, Lib.BuilderAt 73 5 B b p (Lib.byteCells l) w → Lib.BuilderAt 73 5 B b p (Lib.byteCells l) w' := fun p h => by
    obtain ⟨h1, v, h2, h3, h4⟩ := h
    exact ⟨h1, v, (hb.block b (Array.getElem?_eq_some_iff.1 h2).1).trans h2, (Chg.below hb (fun _ => False)).owns h3 (fun _ _ h => h), h4⟩
  rcases h with h | h
  · exact .inl (st _ h)
  · exact .inr (st _ h)
theorem Bld.lt {B b : Nat} {l : Bs} {w : World} (h : Bld B b l w) : B ≤ b ∧ b < w.heap.size := by
  rcases h with h | h
  · exact ⟨h.1, h.lt⟩
  · exact ⟨h.1, h.lt⟩
theorem Bld.fresh (w : World) : Bld w.heap.size w.heap.size [] (w.alloc (.cells #[.pointer none, .slice none 0 0] 73)) := Lib.fresh_isBuilder _ _ _
end Go.Proofs.YtcjmfjccjhdgjaaGreatDoor
namespace Go.Bd
open Go.RowKit
theorem Forest.at {w : World} {F : Nat → Prop} {A : Option Addr} {c n : Nat} {l : List Sp} (h : Forest w F (.slice A n c) l) {j : Nat} {x : Sp} (hx : l[j]? = some x) : ∃ b off kA kc, A = some ⟨b, off, none⟩ ∧ F b ∧ Forest w F (.slice kA x.kids.length kc) x.kids ∧
    w.cell? ⟨b, off + j * 5, none⟩ = some (.int .u8 (x.kind : Int)) ∧ w.cell? ⟨b, off + j * 5 + 1, none⟩ = some (.string ⟨x.text.toArray⟩) ∧ w.cell? ⟨b, off + j * 5 + 2, none⟩ = some (.string ⟨x.sub.toArray⟩) ∧ w.cell? ⟨b, off + j * 5 + 3, none⟩ = some (.string ⟨x.see.toArray⟩) ∧ w.cell? ⟨b, off + j * 5 + 4, none⟩ = some (.slice kA x.kids.length kc) := by
  obtain ⟨A', c', e, _, hh⟩ := h.form
  injection e with e1 e2 e3
  subst e1
  obtain ⟨b, off, kv, h1, h2, h3, h4⟩ := hh j x hx
  obtain ⟨kA, kc, rfl, _⟩ := h3.form
  exact ⟨b, off, kA, kc, h1, h2, h3, h4⟩
theorem Forest.len {w : World} {F : Nat → Prop} {v : Value} {l : List Sp} (h : Forest w F v l) : ∃ A c, v = .slice A l.length c ∧ l.length ≤ c := by
  obtain ⟨A, c, e, hc, _⟩ := h.form
  exact ⟨A, c, e, hc⟩
theorem many_get : ∀ {l : List Sp} {j : Nat} {x : Sp}, l[j]? = some x → 1 + manyL x.kids ≤ manyL l
  | [], _, _, h => by simp at h
  | y :: l, 0, x, h => by
    simp at h
    subst h
    obtain ⟨k, t, u, v, ks⟩ := y
    simp only [manyL, many1]; omega
  | y :: l, j + 1, x, h => by
    have := many_get (l := l) (j := j) (by simpa using h)
    simp only [manyL]; omega
theorem many_len : ∀ l : List Sp, l.length ≤ manyL l
  | [] => Nat.zero_le _
  | ⟨k, t, u, v, ks⟩ :: l => by
    have := many_len l
    simp only [manyL, many1, List.length_cons]; omega
theorem say1_eq (x : Sp) : say1 x = if x.kind = 0 ∨ x.kind = 3 ∨ x.kind = 4 ∨ x.kind = 5 then x.text else if x.kind = 1 ∨ x.kind = 2 then sayL x.kids else [] := by
  obtain ⟨k, t, u, v, ks⟩ := x
  simp only [say1]
theorem sayL_take {l : List Sp} {k : Nat} {x : Sp} (h : l[k]? = some x) : sayL (l.take (k + 1)) = sayL (l.take k) ++ say1 x := by
  rw [List.take_add_one, h, sayL_app]
  simp [sayL]
theorem sayL_le {l : List Sp} {k : Nat} {x : Sp} (h : l[k]? = some x) : (sayL (l.take k)).length + (say1 x).length ≤ (sayL l).length := by
  have e : l = l.take (k + 1) ++ l.drop (k + 1) := (List.take_append_drop _ _).symm
  conv => rhs; rw [e, sayL_app, sayL_take h]
  simp only [List.length_append]; omega
end Go.Bd
namespace Go.Proofs.YtcjmfjccjhdgjaaGreatDoor
open Go.RowKit Go.Bd
set_option maxRecDepth 100000 in
set_option maxHeartbeats 2000000 in
theorem say_any : ∀ (N : Nat) (l : List Sp), manyL l ≤ N → manyL l ≤ 1000000000 → ∀ (v : Value) (w : World) (B b : Nat) (acc : Bs), Forest w (· < B) v l → Bld B b acc w → acc.length + (sayL l).length ≤ 1000000000000 →
    Calls Tryz.prog 26 #[.pointer (some ⟨b, 0, none⟩), v] w fun e w' => e = .returned (.tuple #[]) ∧ Bld B b (acc ++ sayL l) w' ∧ Below B w w' := by
  intro N
  induction N with
  | zero =>
    intro l hN hm v w B b acc hF hI hL
    have hl : l = [] := List.eq_nil_of_length_eq_zero (by have := many_len l; omega)
    subst hl
    obtain ⟨A, c, rfl, hc⟩ := hF.len
    have HI := Lib.hid hI
    clear hF hI
    go_enter Tryz.func26, Tryz.ntmps26
    go_wp2
    go_loop [8] (fun i => i = .int .i64 0) (fun _ => 0)
    case atStart => rfl
    case round =>
      obtain rfl := hrel
      go_wp2
      go_end0
      exact ⟨rfl, by simpa [sayL] using HI.out, Below.refl _ _⟩
  | succ N ih =>
    intro l hN hm v w B b acc hF hI hL
    obtain ⟨A, c, rfl, hc⟩ := hF.len
    have hlm := many_len l
    have HF := Lib.hid hF
    have HI := Lib.hid hI
    have HIH := Lib.hid ih
    obtain ⟨hbB, hbw⟩ := hI.lt
    clear hF hI ih
    obtain ⟨n, hn⟩ : ∃ n, l.length = n := ⟨_, rfl⟩
    have HN := Lib.hid hn
    simp only [hn] at hc hlm HF ⊢
    clear hn
    go_enter Tryz.func26, Tryz.ntmps26
    go_wp2
    go_loopg [8] n (fun q i wr => ∃ k : Nat, k + q = n ∧ i = .int .i64 (k : Int) ∧ Hid (Bld B b (acc ++ sayL (l.take k)) wr ∧ Below B w wr))
    case atStart => exact ⟨0, by omega, rfl, by simpa [sayL] using HI.out, Below.refl _ _⟩
    case round =>
      obtain ⟨k, hk, rfl, HR⟩ := hrel
      by_cases hlt : k < n
      · obtain ⟨x, hx⟩ : ∃ x, l[k]? = some x := ⟨_, List.getElem?_eq_getElem (by rw [HN.out]; exact hlt)⟩
        obtain ⟨b1, off, kA, kc, rfl, hb1, hkF, p0, p1, p2, p3, p4⟩ := HF.out.at hx
        have hbl := HR.out.2
        replace p0 := (hbl.cell (p := ⟨b1, off + k * 5, none⟩) hb1).trans p0
        replace p1 := (hbl.cell (p := ⟨b1, off + k * 5 + 1, none⟩) hb1).trans p1
        replace p2 := (hbl.cell (p := ⟨b1, off + k * 5 + 2, none⟩) hb1).trans p2
        replace p3 := (hbl.cell (p := ⟨b1, off + k * 5 + 3, none⟩) hb1).trans p3
        replace p4 := (hbl.cell (p := ⟨b1, off + k * 5 + 4, none⟩) hb1).trans p4
        have hgt := many_get hx
        have hsl := sayL_le hx
        have HTK := Lib.hid (sayL_take hx)
        have HKF := Lib.hid (hkF.under hbl (fun _ h => h))
        have HS1 := Lib.hid (say1_eq x)
        clear hx hkF hbl
        have hrb := HR.out.2.size
        rcases (show x.kind = 0 ∨ x.kind = 3 ∨ x.kind = 4 ∨ x.kind = 5 ∨ x.kind = 1 ∨ x.kind = 2 ∨ (x.kind ≠ 0 ∧ x.kind ≠ 3 ∧ x.kind ≠ 4 ∧ x.kind ≠ 5 ∧ x.kind ≠ 1 ∧ x.kind ≠ 2) by omega) with h0 | h0 | h0 | h0 | h0 | h0 | h0
        · replace p0 : wr.cell? ⟨b1, off + k * 5, none⟩ = some (.int .u8 0) := by rw [p0, h0]; rfl
          have e1 : say1 x = x.text := by rw [HS1.out, if_pos (by omega)]
          have hx1 : (say1 x).length = x.text.length := by rw [e1]
          have E1 := Lib.hid e1
          clear e1 h0
          go_wp2_with fail
          refine (bld_write B b (acc ++ sayL (l.take k)) ⟨x.text.toArray⟩ _ (HR.out.1.later ((Below.refl _ _).alloc (Nat.le_refl _) _)) (by rw [List.length_append, size_mk]; omega) (by simp; omega)).mono ?_
          rintro e w2 ⟨rfl, hI2, hb2⟩
          have HI2 := Lib.hid hI2
          have HB2 := Lib.hid ((HR.out.2.alloc (by omega) _).trans hb2)
          clear hI2 hb2
          go_wp2
          go_roundg (gk - 1)
          case measure => omega
          case rel => exact ⟨k + 1, by omega, by go_num, by rw [HTK.out, E1.out, ← List.append_assoc]; exact HI2.out, HB2.out⟩
        · replace p0 : wr.cell? ⟨b1, off + k * 5, none⟩ = some (.int .u8 3) := by rw [p0, h0]; rfl
          have e1 : say1 x = x.text := by rw [HS1.out, if_pos (by omega)]
          have hx1 : (say1 x).length = x.text.length := by rw [e1]
          have E1 := Lib.hid e1
          clear e1 h0
          go_wp2_with fail
          refine (bld_write B b (acc ++ sayL (l.take k)) ⟨x.text.toArray⟩ _ (HR.out.1.later ((Below.refl _ _).alloc (Nat.le_refl _) _)) (by rw [List.length_append, size_mk]; omega) (by simp; omega)).mono ?_
          rintro e w2 ⟨rfl, hI2, hb2⟩
          have HI2 := Lib.hid hI2
          have HB2 := Lib.hid ((HR.out.2.alloc (by omega) _).trans hb2)
          clear hI2 hb2
          go_wp2
          go_roundg (gk - 1)
          case measure => omega
          case rel => exact ⟨k + 1, by omega, by go_num, by rw [HTK.out, E1.out, ← List.append_assoc]; exact HI2.out, HB2.out⟩
        · replace p0 : wr.cell? ⟨b1, off + k * 5, none⟩ = some (.int .u8 4) := by rw [p0, h0]; rfl
          have e1 : say1 x = x.text := by rw [HS1.out, if_pos (by omega)]
          have hx1 : (say1 x).length = x.text.length := by rw [e1]
          have E1 := Lib.hid e1
          clear e1 h0
          go_wp2_with fail
          refine (bld_write B b (acc ++ sayL (l.take k)) ⟨x.text.toArray⟩ _ (HR.out.1.later ((Below.refl _ _).alloc (Nat.le_refl _) _)) (by rw [List.length_append, size_mk]; omega) (by simp; omega)).mono ?_
          rintro e w2 ⟨rfl, hI2, hb2⟩
          have HI2 := Lib.hid hI2
          have HB2 := Lib.hid ((HR.out.2.alloc (by omega) _).trans hb2)
          clear hI2 hb2
          go_wp2
          go_roundg (gk - 1)
          case measure => omega
          case rel => exact ⟨k + 1, by omega, by go_num, by rw [HTK.out, E1.out, ← List.append_assoc]; exact HI2.out, HB2.out⟩
        · replace p0 : wr.cell? ⟨b1, off + k * 5, none⟩ = some (.int .u8 5) := by rw [p0, h0]; rfl
          have e1 : say1 x = x.text := by rw [HS1.out, if_pos (by omega)]
          have hx1 : (say1 x).length = x.text.length := by rw [e1]
          have E1 := Lib.hid e1
          clear e1 h0
          go_wp2_with fail
          refine (bld_write B b (acc ++ sayL (l.take k)) ⟨x.text.toArray⟩ _ (HR.out.1.later ((Below.refl _ _).alloc (Nat.le_refl _) _)) (by rw [List.length_append, size_mk]; omega) (by simp; omega)).mono ?_
          rintro e w2 ⟨rfl, hI2, hb2⟩
          have HI2 := Lib.hid hI2
          have HB2 := Lib.hid ((HR.out.2.alloc (by omega) _).trans hb2)
          clear hI2 hb2
          go_wp2
          go_roundg (gk - 1)
          case measure => omega
          case rel => exact ⟨k + 1, by omega, by go_num, by rw [HTK.out, E1.out, ← List.append_assoc]; exact HI2.out, HB2.out⟩
        · replace p0 : wr.cell? ⟨b1, off + k * 5, none⟩ = some (.int .u8 1) := by rw [p0, h0]; rfl
          have e1 : say1 x = sayL x.kids := by rw [HS1.out, if_neg (by omega), if_pos (by omega)]
          have hx1 : (say1 x).length = (sayL x.kids).length := by rw [e1]
          have E1 := Lib.hid e1
          clear e1 h0
          go_wp2_with fail
          have hal := (Below.refl B wr).alloc (by omega) (.cells #[.int .u8 1, .string ⟨x.text.toArray⟩, .string ⟨x.sub.toArray⟩, .string ⟨x.see.toArray⟩, .slice kA x.kids.length kc] 91)
          refine (HIH.out x.kids (by omega) (by omega) _ _ B b (acc ++ sayL (l.take k)) (HKF.out.under hal (fun _ h => h)) (HR.out.1.later ((Below.refl _ _).alloc (Nat.le_refl _) _)) (by rw [List.length_append]; omega)).mono ?_
          clear hal
          rintro e w2 ⟨rfl, hI2, hb2⟩
          have HI2 := Lib.hid hI2
          have HB2 := Lib.hid ((HR.out.2.alloc (by omega) _).trans hb2)
          clear hI2 hb2
          go_wp2
          go_roundg (gk - 1)
          case measure => omega
          case rel => exact ⟨k + 1, by omega, by go_num, by rw [HTK.out, E1.out, ← List.append_assoc]; exact HI2.out, HB2.out⟩
        · replace p0 : wr.cell? ⟨b1, off + k * 5, none⟩ = some (.int .u8 2) := by rw [p0, h0]; rfl
          have e1 : say1 x = sayL x.kids := by rw [HS1.out, if_neg (by omega), if_pos (by omega)]
          have hx1 : (say1 x).length = (sayL x.kids).length := by rw [e1]
          have E1 := Lib.hid e1
          clear e1 h0
          go_wp2_with fail
          have hal := (Below.refl B wr).alloc (by omega) (.cells #[.int .u8 2, .string ⟨x.text.toArray⟩, .string ⟨x.sub.toArray⟩, .string ⟨x.see.toArray⟩, .slice kA x.kids.length kc] 91)
          refine (HIH.out x.kids (by omega) (by omega) _ _ B b (acc ++ sayL (l.take k)) (HKF.out.under hal (fun _ h => h)) (HR.out.1.later ((Below.refl _ _).alloc (Nat.le_refl _) _)) (by rw [List.length_append]; omega)).mono ?_
          clear hal
          rintro e w2 ⟨rfl, hI2, hb2⟩
          have HI2 := Lib.hid hI2
          have HB2 := Lib.hid ((HR.out.2.alloc (by omega) _).trans hb2)
          clear hI2 hb2
          go_wp2
          go_roundg (gk - 1)
          case measure => omega
          case rel => exact ⟨k + 1, by omega, by go_num, by rw [HTK.out, E1.out, ← List.append_assoc]; exact HI2.out, HB2.out⟩
        · obtain ⟨z0, z3, z4, z5, z1, z2⟩ := h0
          have e1 : say1 x = [] := by rw [HS1.out, if_neg (by omega), if_neg (by omega)]
          have E1 := Lib.hid e1
          have t0 : ((x.kind : Int) == 0) = false := by rw [beq_eq_false_iff_ne]; omega
          have t3 : ((x.kind : Int) == 3) = false := by rw [beq_eq_false_iff_ne]; omega
          have t4 : ((x.kind : Int) == 4) = false := by rw [beq_eq_false_iff_ne]; omega
          have t5 : ((x.kind : Int) == 5) = false := by rw [beq_eq_false_iff_ne]; omega
          have t1 : ((x.kind : Int) == 1) = false := by rw [beq_eq_false_iff_ne]; omega
          have t2 : ((x.kind : Int) == 2) = false := by rw [beq_eq_false_iff_ne]; omega
          clear e1
          go_wp2
          go_roundg (gk - 1)
          case measure => omega
          case rel => exact ⟨k + 1, by omega, by go_num, by rw [HTK.out, E1.out, List.append_nil]; exact HR.out.1.later ((Below.refl _ _).alloc (Nat.le_refl _) _), HR.out.2.alloc (by omega) _⟩
      · obtain rfl : k = n := by omega
        go_wp2
        go_end0
        refine ⟨rfl, ?_, HR.out.2⟩
        have h1 := HR.out.1
        rw [List.take_of_length_le (by rw [HN.out]; exact Nat.le_refl _)] at h1
        exact h1
theorem Plain_any (l : List Sp) (hm : manyL l ≤ 1000000000) (hL : (sayL l).length ≤ 1000000000) (v : Value) (w : World) (hF : Forest w (· < w.heap.size) v l) :
    Calls Tryz.prog 15 #[v] w fun e w' => e = .returned (.string ⟨(sayL l).toArray⟩) ∧ Below w.heap.size w w' := by
  obtain ⟨A, c, rfl, hc⟩ := hF.len
  have cs := say_any _ l (Nat.le_refl _) hm _ _ w.heap.size w.heap.size [] (hF.under ((Below.refl w.heap.size w).alloc (Nat.le_refl _) (.cells #[.pointer none, .slice none 0 0] 73)) (fun _ h => h)) (Bld.fresh w) (by simp; omega)
  generalize l.length = n at *
  clear hF
  go_enter Tryz.func15, Tryz.ntmps15
  go_wp2_with fail
  refine cs.mono ?_
  clear cs
  rintro e w2 ⟨rfl, hI2, hb2⟩
  have hbs := hb2.size
  have cb := bld_string w.heap.size w.heap.size _ w2 hI2 (by simp at hbs; omega)
  have HB2 := Lib.hid (((Below.refl w.heap.size w).alloc (Nat.le_refl _) (.cells #[.pointer none, .slice none 0 0] 73)).trans hb2)
  clear hI2 hb2 hbs
  go_wp2_with (go_at_call 27; refine cb.mono ?_; clear cb; rintro e w3 ⟨rfl, hb3⟩)
  go_ret
  exact ⟨rfl, HB2.out.trans hb3⟩
end Go.Proofs.YtcjmfjccjhdgjaaGreatDoor
namespace Go.Proofs.YtcjmfjccjhdgjaaGreatDoor
open Go.RowKit Go.Bd Go.Shelf
abbrev BldF (B b : Nat) (l : Bs) (w : World) : Prop := Lib.IsBuilderF 73 5 B b (Lib.byteCells l) w
abbrev Kept (b : Nat) (w w' : World) : Prop := Lib.OthersKept 5 (some b) w w'
theorem bldK_write (B b : Nat) (l : Bs) (s : ByteArray) (w : World) (h : BldF B b l w) (hlen : l.length + s.size ≤ 140737488355328) (hBw : B ≤ w.heap.size) :
    Calls Tryz.prog 45 #[.pointer (some ⟨b, 0, none⟩), .string s] w fun e w' => e = .returned (.tuple #[.int .i64 s.size, .nilIface]) ∧ BldF B b (l ++ s.data.toList) w' ∧ Below B w w' ∧ Kept b w w' :=
  (Any.Builder_WriteString_k (ρ := bldRen) bldLays166 bldExtra B b _ s w h (by rw [Lib.byteCells_length]; exact hlen) hBw).mono fun _ _ ⟨h1, h2, h3, h4⟩ => ⟨h1, by unfold BldF; rw [Lib.byteCells, List.map_append]; exact .inr h2, h3, h4⟩
theorem bldK_byte (B b : Nat) (l : Bs) (c : UInt8) (w : World) (h : BldF B b l w) (hlen : l.length + 1 ≤ 140737488355328) (hBw : B ≤ w.heap.size) :
    Calls Tryz.prog 62 #[.pointer (some ⟨b, 0, none⟩), .int .u8 (c.toNat : Int)] w fun e w' => e = .returned .nilIface ∧ BldF B b (l ++ [c]) w' ∧ Below B w w' ∧ Kept b w w' :=
  (Any.Builder_WriteByte_k (ρ := bldRen) bldLays167 bldExtra B b _ (c.toNat : Int) w h (by rw [Lib.byteCells_length]; exact hlen) hBw).mono fun _ _ ⟨h1, h2, h3, h4⟩ => ⟨h1, by unfold BldF; rw [Lib.byteCells, List.map_append]; exact .inr h2, h3, h4⟩
theorem bldF_string (B b : Nat) (l : Bs) (w : World) (h : BldF B b l w) (hBw : B ≤ w.heap.size) :
    Calls Tryz.prog 27 #[.pointer (some ⟨b, 0, none⟩)] w fun e w' => e = .returned (.string ⟨l.toArray⟩) ∧ Below B w w' :=
  (Tryz.Builder_String_any_f B b l w h hBw).mono fun _ _ ⟨h1, _, h3⟩ => ⟨h1, h3⟩
theorem BldF.fresh (w : World) : BldF w.heap.size w.heap.size [] (w.alloc (.cells #[.pointer none, .slice none 0 0] 73)) := Lib.IsBuilderF.of (Lib.fresh_isBuilder _ _ _)
theorem ownsF_later {B n sz : Nat} {e : TypeId} {v : Value} {xs : List Value} {w w' : World} (h : w.ownsRowF B e sz v n xs) (hb : Below w.heap.size w w') : w'.ownsRowF B e sz v n xs := by
  refine ⟨h.1, ?_⟩
  rcases h.2 with h1 | h1
  · exact .inl h1
  · refine .inr ?_
    obtain ⟨g, cap, cur, r⟩ := h1
    have hlt : g < w.heap.size := by
      obtain ⟨_, _, r⟩ := r
      first
        | (obtain ⟨z, hh, _⟩ := r; exact (Array.getElem?_eq_some_iff.1 hh).1)
        | (obtain ⟨hh, _⟩ := r; exact (Array.getElem?_eq_some_iff.1 hh).1)
    refine ⟨g, cap, cur, ?_⟩
    rw [hb.block g hlt]
    exact r
theorem BldF.later {B b : Nat} {l : Bs} {w w' : World} (h : BldF B b l w) (hb : Below w.heap.size w w') : BldF B b l w' := by
  have st : ∀ p, Lib.BuilderAtF 73 5 B b p (Lib.byteCells l) w → Lib.BuilderAtF 73 5 B b p (Lib.byteCells l) w' := fun p h => by
    obtain ⟨h1, v, h2, h3, h4⟩ := h
    exact ⟨h1, v, (hb.block b (Array.getElem?_eq_some_iff.1 h2).1).trans h2, ownsF_later h3 hb, h4⟩
  rcases h with h | h
  · exact .inl (st _ h)
  · exact .inr (st _ h)
theorem BldF.lt {B b : Nat} {l : Bs} {w : World} (h : BldF B b l w) : B ≤ b ∧ b < w.heap.size := by
  rcases h with ⟨h1, v, h2, _⟩ | ⟨h1, v, h2, _⟩ <;> exact ⟨h1, (Array.getElem?_eq_some_iff.1 h2).1⟩
theorem Kept.holds {b g : Nat} {t : TypeId} {cs : Array Value} {w w' : World} (h : Kept b w w') (hh : Holds w g t cs) (hg : g ≠ b) (ht : t ≠ 5) : Holds w' g t cs :=
  h g _ hh (fun e => hg (by injection e)) (fun c fz e => by injection e with _ e2 _; exact ht e2)
theorem Kept.later {b : Nat} {w w' w'' : World} (h : Kept b w w') (hb : Below w'.heap.size w' w'') : Kept b w w'' := fun k o h1 h2 h3 => by
  have h4 := h k o h1 h2 h3
  exact (hb.block k (Array.getElem?_eq_some_iff.1 h4).1).trans h4
theorem Kept.refl (b : Nat) (w : World) : Kept b w w := Lib.OthersKept.refl _ _ _
end Go.Proofs.YtcjmfjccjhdgjaaGreatDoor
namespace Go.Bd
open Go.RowKit
theorem join_snoc (x y sep : Bs) (r : List Bs) : Lib.join (x :: r ++ [y]) sep = Lib.join (x :: r) sep ++ (sep ++ y) := by
  rw [List.cons_append, Lib.join_cons, Lib.join_cons]
  simp [Lib.joinTail]
def codeN (ls : List Ln) (pos : Nat) : Nat := untilN (fun t => t == fenceL) (ls.drop pos)
def codeT (ls : List Ln) (pos : Nat) : List Bs := ((ls.drop pos).take (codeN ls pos)).map (fun x => x.text.data.toList)
end Go.Bd
namespace Go.Proofs.YtcjmfjccjhdgjaaGreatDoor
open Go.RowKit Go.Bd
set_option maxRecDepth 100000 in
set_option maxHeartbeats 4000000 in
theorem bcode_any {w : World} {O F L : Nat → Prop} {rb : Nat} {lv : Value} {pos : Nat} {bv : Value} {bs : List Bl} {dv : Value} {ds : List Dg} (h : Rdr w O F rb lv pos bv bs dv ds) {ls : List Ln} (hL : LinesAt w L lv ls) (hLO : ∀ k, L k → ¬ O k) (hLl : ∀ k, L k → k < w.heap.size)
    (hsz : ∀ x ∈ ls, x.text.size ≤ 100000) (hp : pos ≤ ls.length) (hn : ls.length ≤ 1000000) (f t : ByteArray) (no : Int) (s : ByteArray) (hl : bs.length ≤ 1000000) (hd : ds.length + 1 ≤ 1000000) :
    Calls Tryz.prog 39 #[.pointer (some ⟨rb, 0, none⟩), .agg #[.string f, .int .i64 no, .string t], .string s] w fun e w' => e = .returned (.tuple #[]) ∧ ∃ O' bv' dv', Rdr w' O' F rb lv (if pos + codeN ls pos < ls.length then pos + codeN ls pos + 1 else pos + codeN ls pos) bv' (bs ++ [⟨4, 0, false, ⟨#[]⟩, ⟨(Lib.join (codeT ls pos) [10]).toArray⟩, [], [], f, no⟩]) dv' (ds ++ (if pos + codeN ls pos < ls.length then [] else [⟨f, no, 4, s⟩])) ∧ Turn w w' O F O' F := by
  have hB1 : Below w.heap.size w (w.alloc (.cells #[.string f, .int .i64 no, .string t] 62)) := (Below.refl _ w).alloc (Nat.le_refl _) _
  have h1 := h.below hB1
  have hX := Holds.new w 62 #[.string f, .int .i64 no, .string t]
  have hL1 := hL.chg (Chg.below hB1 (fun _ => False)) (fun _ _ h => h)
  have hT1 : Turn w (w.alloc (.cells #[.string f, .int .i64 no, .string t] 62)) O F O F := ⟨Chg.below hB1 O, fun _ h => .inl h, fun _ h => .inl h, fun _ h => h⟩
  have hLl1 : ∀ k, L k → k < (w.alloc (.cells #[.string f, .int .i64 no, .string t] 62)).heap.size := fun k hk => by have := hLl k hk; simp; omega
  obtain ⟨n, hn1⟩ : ∃ n, w.heap.size = n := ⟨_, rfl⟩
  rw [hn1] at hX
  obtain ⟨W1, hW1⟩ : ∃ W1, w.alloc (.cells #[.string f, .int .i64 no, .string t] 62) = W1 := ⟨_, rfl⟩
  rw [hW1] at h1 hX hL1 hLl1 hT1
  have CU := until_any h1 hL1 hLO hLl1 hsz hp hn 61 enter_code (fun t => t == fenceL) code1_any
  unfold codeT
  unfold codeN
  obtain ⟨kk, hkk⟩ : ∃ kk, untilN (fun t => t == fenceL) (ls.drop pos) = kk := ⟨_, rfl⟩
  have hkl : pos + kk ≤ ls.length := by have := untilN_le (fun t => t == fenceL) (ls.drop pos); rw [List.length_drop] at this; omega
  rw [hkk] at CU ⊢
  obtain ⟨mid, hmid⟩ : ∃ mid, (ls.drop pos).take kk = mid := ⟨_, rfl⟩
  have hml : mid.length = kk := by rw [← hmid, List.length_take, List.length_drop]; omega
  have hms : ∀ x ∈ mid, x.text.size ≤ 100000 := fun x hx => hsz x (List.mem_of_mem_drop (List.mem_of_mem_take (hmid ▸ hx)))
  rw [hmid] at CU ⊢
  have hnO : ¬ O n := fun e => by have := h.ltO n e; omega
  obtain ⟨D, hD⟩ : ∃ D : List Dg, (if pos + kk < ls.length then [] else [⟨f, no, 4, s⟩]) = D := ⟨_, rfl⟩
  obtain ⟨P3, hP3⟩ : ∃ P3 : Nat, (if pos + kk < ls.length then pos + kk + 1 else pos + kk) = P3 := ⟨_, rfl⟩
  rw [hD, hP3]
  obtain ⟨J, hJ⟩ : ∃ J : Bs, Lib.join (mid.map (fun x => x.text.data.toList)) [10] = J := ⟨_, rfl⟩
  rw [hJ]
  have HX := Lib.hid (And.intro hX (And.intro hT1 hn1))
  have HL := Lib.hid (And.intro hLl1 (And.intro hLO hms))
  have HJ := Lib.hid hJ
  clear h h1 hX hL hL1 hLl hLl1 hLO hB1 hT1 hkk hmid hsz hms hJ
  go_enter Tryz.func39, Tryz.ntmps39
  go_wp2_with fail
  refine CU.mono ?_
  clear CU
  rintro e W2 ⟨v, rfl, hL2, hr2, ht2⟩
  (try rw [hn1])
  clear hW1 hn1
  obtain ⟨A, c, rfl, hcl⟩ : ∃ A c, v = .slice A mid.length c ∧ mid.length ≤ c := by
    obtain ⟨A, c, h1, h2, _⟩ := hL2
    exact ⟨A, c, h1, h2⟩
  have hX2 := ht2.chg.holds hnO HX.out.1
  obtain ⟨d0, d1, d2⟩ := cells3 hX2
  have HQ := Lib.hid (And.intro hL2 (And.intro hr2 (And.intro (HX.out.2.1.trans ht2) hX2)))
  have HW1 := Lib.hid ht2.chg.size
  by_cases hlt : pos + kk < ls.length
  · have hdt : decide (pos + kk < ls.length) = true := decide_eq_true hlt
    rw [if_pos hlt] at hD hP3
    rw [hdt]
    have p1 := hr2.hold.cell 1
    have f1 := hr2.hold.free 1
    simp at p1
    have HS : Hid (Rdr (W2.setCell ⟨rb, 1, none⟩ (.int .i64 ((pos + kk + 1 : Nat) : Int))) O F rb lv P3 bv bs dv (ds ++ D) ∧ Turn w (W2.setCell ⟨rb, 1, none⟩ (.int .i64 ((pos + kk + 1 : Nat) : Int))) O F O F) := Lib.hid ⟨by rw [← hD, List.append_nil, ← hP3]; exact hr2.moved _, HQ.out.2.2.1.trans (hr2.turn _)⟩
    clear hL2 hr2 ht2 hX2 hdt
    go_wp2_with fail
    have hrO := (HS.out.1).oR
    have hLr : ∀ k, L k → ¬ k = rb := fun k hk e => HL.out.2.1 k hk (e ▸ hrO)
    have hX3 := HQ.out.2.2.2.far (p := ⟨rb, 1, none⟩) (fun e => hnO (e ▸ hrO)) (.int .i64 ((pos + kk + 1 : Nat) : Int))
    have hL3 : LinesAt (W2.setCell ⟨rb, 1, none⟩ (.int .i64 ((pos + kk + 1 : Nat) : Int))) L _ _ := HQ.out.1.chg (Chg.set W2 ⟨rb, 1, none⟩ (.int .i64 ((pos + kk + 1 : Nat) : Int))) hLr
    have hs3 : W1.heap.size ≤ (W2.setCell ⟨rb, 1, none⟩ (.int .i64 ((pos + kk + 1 : Nat) : Int))).heap.size := by have := HW1.out; simp; omega
    have hsz3 : W2.heap.size = (W2.setCell ⟨rb, 1, none⟩ (.int .i64 ((pos + kk + 1 : Nat) : Int))).heap.size := by simp
    obtain ⟨W3, hW3⟩ : ∃ W3, W2.setCell ⟨rb, 1, none⟩ (.int .i64 ((pos + kk + 1 : Nat) : Int)) = W3 := ⟨_, rfl⟩
    rw [hW3] at HS hX3 hL3 hs3 hsz3
    rw [hsz3]
    have e1 : ((pos : Int) + (kk : Int) + 1) = ((pos + kk + 1 : Nat) : Int) := by omega
    (try rw [e1])
    rw [hW3]
    clear hW3 hsz3 e1 d0 d1 d2 p1 f1 hD hP3 hlt hrO hLr
    obtain ⟨O1, dv1, hnO1, HS⟩ : ∃ (O1 : Nat → Prop) (dv1 : Value), ¬ O1 n ∧ Hid (Rdr W3 O1 F rb lv P3 bv bs dv1 (ds ++ D) ∧ Turn w W3 O F O1 F) := ⟨O, dv, hnO, HS⟩
    have HG := Lib.hid (And.intro hX3 (And.intro hL3 hs3))
    clear hX3 hL3 hs3
    have hbl0 := BldF.fresh W3
    obtain ⟨B, hB⟩ : ∃ B, W3.heap.size = B := ⟨_, rfl⟩
    rw [hB] at hbl0 ⊢
    have hbb : Below B W3 (W3.alloc (.cells #[.pointer none, .slice none 0 0] 73)) := hB ▸ (Below.refl _ W3).alloc (Nat.le_refl _) _
    have HB0 := Lib.hid (And.intro hbl0 hbb)
    have HBB := Lib.hid hB
    clear hbl0 hbb hB
    go_loopg [9, 10, 30] kk (fun q va vx vi wr => ∃ k : Nat, k + q = kk ∧ vi = .int .i64 (k : Int) ∧ Hid (BldF B B (Lib.join ((mid.take k).map (fun x => x.text.data.toList)) [10]) wr ∧ Below B W3 wr ∧ (Lib.join ((mid.take k).map (fun x => x.text.data.toList)) [10]).length ≤ k * 100001))
    case atStart => exact ⟨0, by omega, rfl, HB0.out.1, HB0.out.2, by simp [Lib.join_nil]⟩
    case round =>
      obtain ⟨k, hk, rfl, HK⟩ := hrel
      have hBw : B < wr.heap.size := (HK.out.1.lt).2
      by_cases hlt : k < kk
      · obtain ⟨x, hx⟩ : ∃ x, mid[k]? = some x := ⟨_, List.getElem?_eq_getElem (by omega)⟩
        obtain ⟨b, off, c1, hA, _, hb, l0, l1, l2⟩ := HG.out.2.1.at hx
        obtain ⟨rfl, rfl⟩ : A = some ⟨b, off, none⟩ ∧ c = c1 := by cases hA; exact ⟨rfl, rfl⟩
        have hxs := HL.out.2.2 x (List.mem_of_getElem? hx)
        have hbB : b < B := by have := HL.out.1 b hb; have := HG.out.2.2; have := HBB.out; omega
        replace l0 := (HK.out.2.1.cell (p := ⟨b, off + k * 3, none⟩) hbB).trans l0
        replace l1 := (HK.out.2.1.cell (p := ⟨b, off + k * 3 + 1, none⟩) hbB).trans l1
        replace l2 := (HK.out.2.1.cell (p := ⟨b, off + k * 3 + 2, none⟩) hbB).trans l2
        have htk : (mid.take (k + 1)).map (fun x => x.text.data.toList) = (mid.take k).map (fun x => x.text.data.toList) ++ [x.text.data.toList] := by rw [List.take_add_one, hx]; simp
        have hxz : x.text.data.toList.length = x.text.size := by simp
        have HTK := Lib.hid (And.intro htk hxz)
        have hbox := HK.out.1.later ((Below.refl _ wr).alloc (Nat.le_refl _) (.cells #[.string x.file, .int .i64 x.no, .string x.text] 62))
        have hbbx : Below B W3 (wr.alloc (.cells #[.string x.file, .int .i64 x.no, .string x.text] 62)) := HK.out.2.1.alloc (by have := HK.out.2.1.size; have := HBB.out; omega) _
        have hlen := HK.out.2.2
        have HXB := Lib.hid (And.intro hbox (And.intro hbbx hlen))
        clear hA htk hxz hx hbox hbbx hlen
        by_cases hk0 : k = 0
        · subst hk0
          simp only [Nat.zero_mul, Nat.add_zero] at l0 l1 l2
          go_wp2_with fail
          refine (bldK_write B B _ x.text _ HXB.out.1 (by have := HXB.out.2.2; omega) (by simp; omega)).mono ?_
          rintro e w2 ⟨rfl, hI2, hb2, hkp2⟩
          have HI2 := Lib.hid hI2
          have HB2 := Lib.hid (HXB.out.2.1.trans hb2)
          clear hI2 hb2
          go_wp2
          go_roundg (gk - 1)
          case measure => omega
          case rel =>
            refine ⟨0 + 1, by omega, by go_num, ?_, HB2.out, ?_⟩
            · rw [HTK.out.1]
              simpa [Lib.join_one, Lib.join_nil] using HI2.out
            · rw [HTK.out.1]
              simp [Lib.join_one]
              have := HTK.out.2
              omega
        · have hk1 : (0 : Int) < (k : Int) := by omega
          have htk : Lib.join ((mid.take (k + 1)).map (fun x => x.text.data.toList)) [10] = Lib.join ((mid.take k).map (fun x => x.text.data.toList)) [10] ++ ([10] ++ x.text.data.toList) := by
            rw [HTK.out.1]
            obtain ⟨y, r, hyr⟩ : ∃ y r, (mid.take k).map (fun x => x.text.data.toList) = y :: r := by
              cases hm : (mid.take k).map (fun x => x.text.data.toList) with
              | nil => simp at hm; rcases hm with hm | hm
                       · omega
                       · rw [hm] at hml; simp at hml; omega
              | cons y r => exact ⟨y, r, rfl⟩
            rw [hyr]
            exact join_snoc _ _ _ _
          have HTJ := Lib.hid htk
          clear htk
          go_wp2_with fail
          refine (bldK_byte B B _ 10 _ HXB.out.1 (by have := HXB.out.2.2; omega) (by simp; omega)).mono ?_
          rintro e w1 ⟨rfl, hI1, hb1, hkp1⟩
          have HI1 := Lib.hid hI1
          have HB1 := Lib.hid (HXB.out.2.1.trans hb1)
          have hs1 := hI1.lt
          have hbx : wr.heap.size ≠ B := by omega
          have hbX := hkp1.holds (Holds.new wr 62 #[.string x.file, .int .i64 x.no, .string x.text]) hbx (by decide)
          have c2 := hbX.cell 2
          simp at c2
          clear hI1 hb1 hkp1 hbX
          go_wp2_with fail
          refine (bldK_write B B _ x.text _ HI1.out (by have := HXB.out.2.2; simp only [List.length_append, List.length_cons, List.length_nil]; omega) (by omega)).mono ?_
          rintro e w2 ⟨rfl, hI2, hb2, _⟩
          have HI2 := Lib.hid hI2
          have HB2 := Lib.hid (HB1.out.trans hb2)
          clear hI2 hb2
          go_wp2
          go_roundg (gk - 1)
          case measure => omega
          case rel =>
            refine ⟨k + 1, by omega, by go_num, ?_, HB2.out, ?_⟩
            · rw [HTJ.out, ← List.append_assoc]
              exact HI2.out
            · rw [HTJ.out]
              have h1 := HXB.out.2.2
              have h2 := HTK.out.2
              simp only [List.length_append, List.length_cons, List.length_nil]
              omega
      · obtain rfl : k = kk := by omega
        have hbk := HK.out.1
        rw [List.take_of_length_le (by omega), HJ.out] at hbk
        have hC : Chg W3 wr (fun _ => False) := Chg.below (by rw [HBB.out]; exact HK.out.2.1) _
        have hnB : n < B := by have := HG.out.1.lt; have := HBB.out; omega
        obtain ⟨d0, d1, d2⟩ := cells3 (hC.holds (fun h => h) HG.out.1)
        have HBK := Lib.hid hbk
        clear hbk hC
        go_wp2_with fail
        refine wp_region_held_drew (S := (fun w' => w'.cell? ⟨n, 0, none⟩ = some (.string f) ∧ w'.cell? ⟨n, 1, none⟩ = some (.int .i64 no) ∧ w'.cell? ⟨n, 2, none⟩ = some (.string t))) (by kernel_rfl) ?_ (fun hHeld0 => ?_)
        · (try dsimp only)
          first | exact ⟨d0, d1, d2⟩ | exact cells3 hX4 | exact cells3 hX5
        refine wpAnyH_take (i := 0) (oi := ⟨some 42, _, _, _, _, _⟩) (v := ?_) rfl (by kernel_rfl) (by kernel_rfl) (by kernel_rfl) (fun _ _ _ h => h) (Or.inl ⟨by kernel_rfl, ?_⟩) (by assumption) ?_
        rotate_left
        · (intro w hSw; (try dsimp only at hSw); go_simp; (first | done | with_reducible rfl))
        (try simp only [Act.put, List.setIfInBounds_toArray, List.set_cons_zero, List.set_cons_succ])
        refine wpAnyH_take (i := 3) (oi := ⟨some 45, _, _, _, _, _⟩) (v := ?_) rfl (by kernel_rfl) (by kernel_rfl) (by kernel_rfl) (fun _ _ _ h => h) (Or.inl ⟨by kernel_rfl, ?_⟩) (by assumption) ?_
        rotate_left
        · (intro w hSw; (try dsimp only at hSw); go_simp; (first | done | with_reducible rfl))
        (try simp only [Act.put, List.setIfInBounds_toArray, List.set_cons_zero, List.set_cons_succ])
        refine wpAnyH_ready (rs := [1]) (by kernel_rfl) (by simp) ?_
        refine AllReadyH.cons (o := ⟨some 43, _, _, _, _, _⟩) rfl (fun K hK => ?_) AllReadyH.nil
        go_simp
        first
        | refine (bldF_string B B J wr HBK.out (by omega)).mono ?_
        | refine (bldF_string B B J wr.drew (HBK.out.later (Below.refl _ wr).drew) (Nat.le_of_lt hBw)).mono ?_
        rintro e w4 ⟨rfl, hb4⟩
        have hC4 : Chg W3 w4 (fun _ => False) := by
          have h1 : Chg W3 wr (fun _ => False) := Chg.below (by rw [HBB.out]; exact HK.out.2.1) _
          refine ⟨?_, ?_, ?_, ?_, ?_⟩
          · exact hb4.os.trans h1.os
          · exact hb4.tape.trans h1.tape
          · exact hb4.output.trans h1.output
          · exact Nat.le_trans h1.size hb4.size
          · intro k hk _
            exact (hb4.block k (by rw [HBB.out] at hk; exact hk)).trans (h1.block k hk (fun h => h))
        have hX4 := hC4.holds (fun h => h) HG.out.1
        have hr4 := HS.out.1.chg hC4 (fun _ _ h => h) (fun _ _ h => h)
        have ht4 : Turn w w4 O F O1 F := HS.out.2.trans ⟨hC4.mono (fun _ _ h => h.elim), fun _ h => .inl h, fun _ h => .inl h, fun _ h => h⟩
        have H4 := Lib.hid (And.intro hr4 ht4)
        clear hC4 hr4 ht4 hb4
        refine hK.out _ _ ?_ (fun hHeld1 => ?_)
        · (try dsimp only)
          first | exact ⟨d0, d1, d2⟩ | exact cells3 hX4 | exact cells3 hX5
        clear hK K hHeld0
        (try simp only [Act.put, List.setIfInBounds_toArray, List.set_cons_zero, List.set_cons_succ])
        refine wpAnyH_take (i := 2) (oi := ⟨some 44, _, _, _, _, _⟩) (v := ?_) rfl (by kernel_rfl) (by kernel_rfl) (by kernel_rfl) (fun _ _ _ h => h) (Or.inl ⟨by kernel_rfl, ?_⟩) (by assumption) ?_
        rotate_left
        · (intro w hSw; (try dsimp only at hSw); go_simp; (first | done | with_reducible rfl))
        (try simp only [Act.put, List.setIfInBounds_toArray, List.set_cons_zero, List.set_cons_succ])
        refine wpAnyH_ready (rs := [4]) (by kernel_rfl) (by simp) ?_
        refine AllReadyH.cons (o := ⟨some 46, _, _, _, _, _⟩) rfl (fun K hK => ?_) AllReadyH.nil
        go_simp
        have CA := badd_any H4.out.1 ⟨4, 0, false, ⟨#[]⟩, ⟨J.toArray⟩, [], [], f, no⟩ (.slice none 0 0) (.slice none 0 0) ⟨Forest.nil _ _, rows_nil _ _⟩ f t ⟨#[]⟩ no 0 hl rfl rfl
        have e4 : ((4 : Nat) : Int) = 4 := rfl
        have e0 : ((0 : Nat) : Int) = 0 := rfl
        simp only [e4, e0] at CA
        refine CA.mono ?_
        clear CA e4 e0
        rintro e w5 ⟨rfl, O3, bv3, hr5, ht5⟩
        have hX5 := ht5.chg.holds hnO1 hX4
        refine hK.out _ _ ?_ (fun hHeld2 => ?_)
        · (try dsimp only)
          first | exact ⟨d0, d1, d2⟩ | exact cells3 hX4 | exact cells3 hX5
        clear hK K hHeld1
        (try simp only [Act.put, List.setIfInBounds_toArray, List.set_cons_zero, List.set_cons_succ])
        refine wpAnyH_done (by kernel_rfl) ?_ _
        go_wp2
        go_end0
        exact ⟨rfl, O3, bv3, dv1, hr5, H4.out.2.trans ht5⟩
  · have hdt : decide (pos + kk < ls.length) = false := decide_eq_false hlt
    rw [if_neg hlt] at hD hP3
    rw [hdt]
    have CF := fault_any hr2 f t no 4 s (by omega)
    have e4 : ((4 : Nat) : Int) = 4 := rfl
    rw [e4] at CF
    clear e4 hL2 hr2 ht2 hdt
    have hn2 := hX2.lt
    go_wp2_with fail
    refine CF.mono ?_
    clear CF
    rintro e W3 ⟨rfl, O1, dv1, hr3, ht3⟩
    have hnO1 : ¬ O1 n := ht3.offO hn2 hnO
    have hX3 := ht3.chg.holds hnO HQ.out.2.2.2
    have hL3 : LinesAt W3 L _ _ := HQ.out.1.chg ht3.chg HL.out.2.1
    have hs3 : W1.heap.size ≤ W3.heap.size := by have := HW1.out; have := ht3.chg.size; omega
    have HS : Hid (Rdr W3 O1 F rb lv P3 bv bs dv1 (ds ++ D) ∧ Turn w W3 O F O1 F) := Lib.hid ⟨by rw [← hD, ← hP3]; exact hr3, HQ.out.2.2.1.trans ht3⟩
    clear hr3 ht3 d0 d1 d2 hX2 hD hP3 hlt
    go_wp2_with fail
    have HG := Lib.hid (And.intro hX3 (And.intro hL3 hs3))
    clear hX3 hL3 hs3
    have hbl0 := BldF.fresh W3
    obtain ⟨B, hB⟩ : ∃ B, W3.heap.size = B := ⟨_, rfl⟩
    rw [hB] at hbl0 ⊢
    have hbb : Below B W3 (W3.alloc (.cells #[.pointer none, .slice none 0 0] 73)) := hB ▸ (Below.refl _ W3).alloc (Nat.le_refl _) _
    have HB0 := Lib.hid (And.intro hbl0 hbb)
    have HBB := Lib.hid hB
    clear hbl0 hbb hB
    go_loopg [9, 10, 30] kk (fun q va vx vi wr => ∃ k : Nat, k + q = kk ∧ vi = .int .i64 (k : Int) ∧ Hid (BldF B B (Lib.join ((mid.take k).map (fun x => x.text.data.toList)) [10]) wr ∧ Below B W3 wr ∧ (Lib.join ((mid.take k).map (fun x => x.text.data.toList)) [10]).length ≤ k * 100001))
    case atStart => exact ⟨0, by omega, rfl, HB0.out.1, HB0.out.2, by simp [Lib.join_nil]⟩
    case round =>
      obtain ⟨k, hk, rfl, HK⟩ := hrel
      have hBw : B < wr.heap.size := (HK.out.1.lt).2
      by_cases hlt : k < kk
      · obtain ⟨x, hx⟩ : ∃ x, mid[k]? = some x := ⟨_, List.getElem?_eq_getElem (by omega)⟩
        obtain ⟨b, off, c1, hA, _, hb, l0, l1, l2⟩ := HG.out.2.1.at hx
        obtain ⟨rfl, rfl⟩ : A = some ⟨b, off, none⟩ ∧ c = c1 := by cases hA; exact ⟨rfl, rfl⟩
        have hxs := HL.out.2.2 x (List.mem_of_getElem? hx)
        have hbB : b < B := by have := HL.out.1 b hb; have := HG.out.2.2; have := HBB.out; omega
        replace l0 := (HK.out.2.1.cell (p := ⟨b, off + k * 3, none⟩) hbB).trans l0
        replace l1 := (HK.out.2.1.cell (p := ⟨b, off + k * 3 + 1, none⟩) hbB).trans l1
        replace l2 := (HK.out.2.1.cell (p := ⟨b, off + k * 3 + 2, none⟩) hbB).trans l2
        have htk : (mid.take (k + 1)).map (fun x => x.text.data.toList) = (mid.take k).map (fun x => x.text.data.toList) ++ [x.text.data.toList] := by rw [List.take_add_one, hx]; simp
        have hxz : x.text.data.toList.length = x.text.size := by simp
        have HTK := Lib.hid (And.intro htk hxz)
        have hbox := HK.out.1.later ((Below.refl _ wr).alloc (Nat.le_refl _) (.cells #[.string x.file, .int .i64 x.no, .string x.text] 62))
        have hbbx : Below B W3 (wr.alloc (.cells #[.string x.file, .int .i64 x.no, .string x.text] 62)) := HK.out.2.1.alloc (by have := HK.out.2.1.size; have := HBB.out; omega) _
        have hlen := HK.out.2.2
        have HXB := Lib.hid (And.intro hbox (And.intro hbbx hlen))
        clear hA htk hxz hx hbox hbbx hlen
        by_cases hk0 : k = 0
        · subst hk0
          simp only [Nat.zero_mul, Nat.add_zero] at l0 l1 l2
          go_wp2_with fail
          refine (bldK_write B B _ x.text _ HXB.out.1 (by have := HXB.out.2.2; omega) (by simp; omega)).mono ?_
          rintro e w2 ⟨rfl, hI2, hb2, hkp2⟩
          have HI2 := Lib.hid hI2
          have HB2 := Lib.hid (HXB.out.2.1.trans hb2)
          clear hI2 hb2
          go_wp2
          go_roundg (gk - 1)
          case measure => omega
          case rel =>
            refine ⟨0 + 1, by omega, by go_num, ?_, HB2.out, ?_⟩
            · rw [HTK.out.1]
              simpa [Lib.join_one, Lib.join_nil] using HI2.out
            · rw [HTK.out.1]
              simp [Lib.join_one]
              have := HTK.out.2
              omega
        · have hk1 : (0 : Int) < (k : Int) := by omega
          have htk : Lib.join ((mid.take (k + 1)).map (fun x => x.text.data.toList)) [10] = Lib.join ((mid.take k).map (fun x => x.text.data.toList)) [10] ++ ([10] ++ x.text.data.toList) := by
            rw [HTK.out.1]
            obtain ⟨y, r, hyr⟩ : ∃ y r, (mid.take k).map (fun x => x.text.data.toList) = y :: r := by
              cases hm : (mid.take k).map (fun x => x.text.data.toList) with
              | nil => simp at hm; rcases hm with hm | hm
                       · omega
                       · rw [hm] at hml; simp at hml; omega
              | cons y r => exact ⟨y, r, rfl⟩
            rw [hyr]
            exact join_snoc _ _ _ _
          have HTJ := Lib.hid htk
          clear htk
          go_wp2_with fail
          refine (bldK_byte B B _ 10 _ HXB.out.1 (by have := HXB.out.2.2; omega) (by simp; omega)).mono ?_
          rintro e w1 ⟨rfl, hI1, hb1, hkp1⟩
          have HI1 := Lib.hid hI1
          have HB1 := Lib.hid (HXB.out.2.1.trans hb1)
          have hs1 := hI1.lt
          have hbx : wr.heap.size ≠ B := by omega
          have hbX := hkp1.holds (Holds.new wr 62 #[.string x.file, .int .i64 x.no, .string x.text]) hbx (by decide)
          have c2 := hbX.cell 2
          simp at c2
          clear hI1 hb1 hkp1 hbX
          go_wp2_with fail
          refine (bldK_write B B _ x.text _ HI1.out (by have := HXB.out.2.2; simp only [List.length_append, List.length_cons, List.length_nil]; omega) (by omega)).mono ?_
          rintro e w2 ⟨rfl, hI2, hb2, _⟩
          have HI2 := Lib.hid hI2
          have HB2 := Lib.hid (HB1.out.trans hb2)
          clear hI2 hb2
          go_wp2
          go_roundg (gk - 1)
          case measure => omega
          case rel =>
            refine ⟨k + 1, by omega, by go_num, ?_, HB2.out, ?_⟩
            · rw [HTJ.out, ← List.append_assoc]
              exact HI2.out
            · rw [HTJ.out]
              have h1 := HXB.out.2.2
              have h2 := HTK.out.2
              simp only [List.length_append, List.length_cons, List.length_nil]
              omega
      · obtain rfl : k = kk := by omega
        have hbk := HK.out.1
        rw [List.take_of_length_le (by omega), HJ.out] at hbk
        have hC : Chg W3 wr (fun _ => False) := Chg.below (by rw [HBB.out]; exact HK.out.2.1) _
        have hnB : n < B := by have := HG.out.1.lt; have := HBB.out; omega
        obtain ⟨d0, d1, d2⟩ := cells3 (hC.holds (fun h => h) HG.out.1)
        have HBK := Lib.hid hbk
        clear hbk hC
        go_wp2_with fail
        refine wp_region_held_drew (S := (fun w' => w'.cell? ⟨n, 0, none⟩ = some (.string f) ∧ w'.cell? ⟨n, 1, none⟩ = some (.int .i64 no) ∧ w'.cell? ⟨n, 2, none⟩ = some (.string t))) (by kernel_rfl) ?_ (fun hHeld0 => ?_)
        · (try dsimp only)
          first | exact ⟨d0, d1, d2⟩ | exact cells3 hX4 | exact cells3 hX5
        refine wpAnyH_take (i := 0) (oi := ⟨some 42, _, _, _, _, _⟩) (v := ?_) rfl (by kernel_rfl) (by kernel_rfl) (by kernel_rfl) (fun _ _ _ h => h) (Or.inl ⟨by kernel_rfl, ?_⟩) (by assumption) ?_
        rotate_left
        · (intro w hSw; (try dsimp only at hSw); go_simp; (first | done | with_reducible rfl))
        (try simp only [Act.put, List.setIfInBounds_toArray, List.set_cons_zero, List.set_cons_succ])
        refine wpAnyH_take (i := 3) (oi := ⟨some 45, _, _, _, _, _⟩) (v := ?_) rfl (by kernel_rfl) (by kernel_rfl) (by kernel_rfl) (fun _ _ _ h => h) (Or.inl ⟨by kernel_rfl, ?_⟩) (by assumption) ?_
        rotate_left
        · (intro w hSw; (try dsimp only at hSw); go_simp; (first | done | with_reducible rfl))
        (try simp only [Act.put, List.setIfInBounds_toArray, List.set_cons_zero, List.set_cons_succ])
        refine wpAnyH_ready (rs := [1]) (by kernel_rfl) (by simp) ?_
        refine AllReadyH.cons (o := ⟨some 43, _, _, _, _, _⟩) rfl (fun K hK => ?_) AllReadyH.nil
        go_simp
        first
        | refine (bldF_string B B J wr HBK.out (by omega)).mono ?_
        | refine (bldF_string B B J wr.drew (HBK.out.later (Below.refl _ wr).drew) (Nat.le_of_lt hBw)).mono ?_
        rintro e w4 ⟨rfl, hb4⟩
        have hC4 : Chg W3 w4 (fun _ => False) := by
          have h1 : Chg W3 wr (fun _ => False) := Chg.below (by rw [HBB.out]; exact HK.out.2.1) _
          refine ⟨?_, ?_, ?_, ?_, ?_⟩
          · exact hb4.os.trans h1.os
          · exact hb4.tape.trans h1.tape
          · exact hb4.output.trans h1.output
          · exact Nat.le_trans h1.size hb4.size
          · intro k hk _
            exact (hb4.block k (by rw [HBB.out] at hk; exact hk)).trans (h1.block k hk (fun h => h))
        have hX4 := hC4.holds (fun h => h) HG.out.1
        have hr4 := HS.out.1.chg hC4 (fun _ _ h => h) (fun _ _ h => h)
        have ht4 : Turn w w4 O F O1 F := HS.out.2.trans ⟨hC4.mono (fun _ _ h => h.elim), fun _ h => .inl h, fun _ h => .inl h, fun _ h => h⟩
        have H4 := Lib.hid (And.intro hr4 ht4)
        clear hC4 hr4 ht4 hb4
        refine hK.out _ _ ?_ (fun hHeld1 => ?_)
        · (try dsimp only)
          first | exact ⟨d0, d1, d2⟩ | exact cells3 hX4 | exact cells3 hX5
        clear hK K hHeld0
        (try simp only [Act.put, List.setIfInBounds_toArray, List.set_cons_zero, List.set_cons_succ])
        refine wpAnyH_take (i := 2) (oi := ⟨some 44, _, _, _, _, _⟩) (v := ?_) rfl (by kernel_rfl) (by kernel_rfl) (by kernel_rfl) (fun _ _ _ h => h) (Or.inl ⟨by kernel_rfl, ?_⟩) (by assumption) ?_
        rotate_left
        · (intro w hSw; (try dsimp only at hSw); go_simp; (first | done | with_reducible rfl))
        (try simp only [Act.put, List.setIfInBounds_toArray, List.set_cons_zero, List.set_cons_succ])
        refine wpAnyH_ready (rs := [4]) (by kernel_rfl) (by simp) ?_
        refine AllReadyH.cons (o := ⟨some 46, _, _, _, _, _⟩) rfl (fun K hK => ?_) AllReadyH.nil
        go_simp
        have CA := badd_any H4.out.1 ⟨4, 0, false, ⟨#[]⟩, ⟨J.toArray⟩, [], [], f, no⟩ (.slice none 0 0) (.slice none 0 0) ⟨Forest.nil _ _, rows_nil _ _⟩ f t ⟨#[]⟩ no 0 hl rfl rfl
        have e4 : ((4 : Nat) : Int) = 4 := rfl
        have e0 : ((0 : Nat) : Int) = 0 := rfl
        simp only [e4, e0] at CA
        refine CA.mono ?_
        clear CA e4 e0
        rintro e w5 ⟨rfl, O3, bv3, hr5, ht5⟩
        have hX5 := ht5.chg.holds hnO1 hX4
        refine hK.out _ _ ?_ (fun hHeld2 => ?_)
        · (try dsimp only)
          first | exact ⟨d0, d1, d2⟩ | exact cells3 hX4 | exact cells3 hX5
        clear hK K hHeld1
        (try simp only [Act.put, List.setIfInBounds_toArray, List.set_cons_zero, List.set_cons_succ])
        refine wpAnyH_done (by kernel_rfl) ?_ _
        go_wp2
        go_end0
        exact ⟨rfl, O3, bv3, dv1, hr5, H4.out.2.trans ht5⟩
end Go.Proofs.YtcjmfjccjhdgjaaGreatDoor
namespace Go.Proofs.YtcjmfjccjhdgjaaGreatDoor
open Go.RowKit Go.Bd
set_option maxRecDepth 100000 in
set_option maxHeartbeats 4000000 in
theorem note1_any {w : World} {O F : Nat → Prop} {rb : Nat} {lv : Value} {pos : Nat} {bv : Value} {bs : List Bl} {dv : Value} {ds : List Dg} (h : Rdr w O F rb lv pos bv bs dv ds) {kb pb : Nat} {tk tp : TypeId} {kd : ByteArray} (hk : Holds w kb tk #[.string kd]) (hp : Holds w pb tp #[.pointer (some ⟨rb, 0, none⟩)]) (hkO : ¬ O kb) (hpO : ¬ O pb) (f t : ByteArray) (no : Int) (s : ByteArray) (hs : s.size ≤ 100000) {m : Int} (hm : Glob m w)
    (hl : bs.length ≤ 1000000) (hd : ds.length + (faultsOf s.data.toList).length ≤ 1000000) :
    Calls Tryz.prog 32 #[.agg #[.string f, .int .i64 no, .string t], .string s, .pointer (some ⟨kb, 0, none⟩), .pointer (some ⟨pb, 0, none⟩)] w fun e w' => e = .returned (.bool true) ∧ ∃ O' F' bv' dv', Rdr w' O' F' rb lv pos bv' (bs ++ [⟨5, 0, false, ⟨#[]⟩, kd, spansOf s.data.toList, [], f, no⟩]) dv' (ds ++ (faultsOf s.data.toList).map (dgOf f no s)) ∧ Turn w w' O F O' F' := by
  have hb12 := ((Below.refl w.heap.size w).alloc (Nat.le_refl _) (.cells #[.string f, .int .i64 no, .string t] 62)).alloc (by simp) (.cells #[.int .u8 5, .int .i64 0, .bool false, .string ⟨#[]⟩, .string kd, .slice none 0 0, .slice none 0 0, .string ⟨#[]⟩, .int .i64 0] 35)
  have h1 := h.below hb12
  have hX := (Holds.new w 62 #[.string f, .int .i64 no, .string t]).alloc (.cells #[.int .u8 5, .int .i64 0, .bool false, .string ⟨#[]⟩, .string kd, .slice none 0 0, .slice none 0 0, .string ⟨#[]⟩, .int .i64 0] 35)
  have hN := Holds.new (w.alloc (.cells #[.string f, .int .i64 no, .string t] 62)) 35 #[.int .u8 5, .int .i64 0, .bool false, .string ⟨#[]⟩, .string kd, .slice none 0 0, .slice none 0 0, .string ⟨#[]⟩, .int .i64 0]
  rw [World.size_alloc] at hN
  have hk1 := (hk.alloc (.cells #[.string f, .int .i64 no, .string t] 62)).alloc (.cells #[.int .u8 5, .int .i64 0, .bool false, .string ⟨#[]⟩, .string kd, .slice none 0 0, .slice none 0 0, .string ⟨#[]⟩, .int .i64 0] 35)
  have hp1 := (hp.alloc (.cells #[.string f, .int .i64 no, .string t] 62)).alloc (.cells #[.int .u8 5, .int .i64 0, .bool false, .string ⟨#[]⟩, .string kd, .slice none 0 0, .slice none 0 0, .string ⟨#[]⟩, .int .i64 0] 35)
  have k0 := hk.cell 0
  have kf0 := (hk.alloc (.cells #[.string f, .int .i64 no, .string t] 62)).cell 0
  have pf0 := hp1.cell 0
  simp at k0 kf0 pf0
  have hm1 := hm.chg (Chg.below hb12 (fun _ => False)) (fun _ h => h.elim)
  have hT0 : Turn w _ O F O F := ⟨Chg.below hb12 O, fun _ h => .inl h, fun _ h => .inl h, fun _ h => h⟩
  have CS := bspans_any h1 f t no s hs hm1 hd
  have pl0 := pf0
  have hkl := hk.lt
  have hpl := hp.lt
  obtain ⟨n, hn⟩ : ∃ n, w.heap.size = n := ⟨_, rfl⟩
  rw [hn] at hX hN hkl hpl
  obtain ⟨W1, hW1⟩ : ∃ W1, (w.alloc (.cells #[.string f, .int .i64 no, .string t] 62)).alloc (.cells #[.int .u8 5, .int .i64 0, .bool false, .string ⟨#[]⟩, .string kd, .slice none 0 0, .slice none 0 0, .string ⟨#[]⟩, .int .i64 0] 35) = W1 := ⟨_, rfl⟩
  rw [hW1] at h1 hX hN hT0 hm1 hk1 hp1 pf0
  have hnO : ¬ O n := fun e => by have := h.ltO n e; omega
  have hbO : ¬ O (n + 1) := fun e => by have := h.ltO (n + 1) e; omega
  have hbF : ¬ F (n + 1) := fun e => by have := h.ltF (n + 1) e; omega
  obtain ⟨d0, d1, d2⟩ := cells3 hX
  have HW1 := Lib.hid hW1
  have HN := Lib.hid hn
  have HR := Lib.hid (And.intro h1 (And.intro hT0 (And.intro hX (And.intro hN hp1))))
  clear h h1 hT0 hX hN hk1 hp1 hm hm1 hb12 hk hp hW1 hn
  go_enter Tryz.func32, Tryz.ntmps32
  go_wp2_with fail
  refine CS.mono ?_
  clear CS
  rintro e W5 ⟨sv, O2, F2, dv2, rfl, hfo, hr5, ht5⟩
  rw [HW1.out] at ht5
  (try rw [HN.out])
  clear HW1 pl0 k0 kf0
  obtain ⟨As, cs, rfl, _⟩ := hfo.form
  have hnl := HR.out.2.2.2.1.lt
  have hX5 := ht5.chg.holds hnO HR.out.2.2.1
  have hN5 := ht5.chg.holds hbO HR.out.2.2.2.1
  have hp5 := ht5.chg.holds hpO HR.out.2.2.2.2
  have hbO2 := ht5.offO hnl hbO
  have hbF2 := ht5.offF hnl hbF
  have c5 := hN5.cell 5
  have x5 := hN5.free 5
  have hC6 : Chg W5 (W5.setCell ⟨n + 1, 5, none⟩ (.slice As (spansOf s.data.toList).length cs)) (fun k => k = n + 1) := Chg.set W5 ⟨n + 1, 5, none⟩ (.slice As (spansOf s.data.toList).length cs)
  have hr6 := hr5.chg hC6 (fun k hk e => hbO2 (e ▸ hk)) (fun k hk e => hbF2 (e ▸ hk))
  have hfo6 := hfo.chg hC6 (fun _ h => h) (fun k hk e => hbF2 (e ▸ hk))
  have hN6 := hN5.set 5 (.slice As (spansOf s.data.toList).length cs)
  have hX6 := hX5.far (p := ⟨n + 1, 5, none⟩) (by simp) (.slice As (spansOf s.data.toList).length cs)
  have hp6 := hp5.far (p := ⟨n + 1, 5, none⟩) (fun e => by have e' : pb = n + 1 := e; omega) (.slice As (spansOf s.data.toList).length cs)
  simp only [List.setIfInBounds_toArray, List.set_cons_succ, List.set_cons_zero] at hN6
  obtain ⟨b0, b1, b2, b3, b4, b5, b6, b7, b8⟩ := cells9 hN6
  obtain ⟨q0, q1, q2⟩ := cells3 hX6
  have r0 : _ = some (Value.pointer (some ⟨rb, 0, none⟩)) := hp6.cell 0
  have CA := badd_any hr6 ⟨5, 0, false, ⟨#[]⟩, kd, spansOf s.data.toList, [], f, no⟩ (.slice As (spansOf s.data.toList).length cs) (.slice none 0 0) ⟨hfo6, rows_nil _ _⟩ f t ⟨#[]⟩ no 0 hl rfl rfl
  have e5 : ((5 : Nat) : Int) = 5 := rfl
  have e0 : ((0 : Nat) : Int) = 0 := rfl
  simp only [e5, e0] at CA
  have H6 := Lib.hid (And.intro ht5 hC6)
  have HNN := Lib.hid (show w.heap.size ≤ n + 1 from by have := HN.out; omega)
  clear e5 e0 hr5 ht5 hr6 hfo6 hfo hN6 hN5 hX5 hX6 hp5 hp6 hC6 d0 d1 d2 pf0 HN
  go_wp2_with fail
  refine CA.mono ?_
  clear CA
  rintro e W7 ⟨rfl, O3, bv3, hr7, ht7⟩
  go_wp2
  go_ret
  exact ⟨rfl, O3, F2, bv3, dv2, hr7, ((HR.out.2.1.trans H6.out.1).poke H6.out.2 HNN.out).trans ht7⟩
end Go.Proofs.YtcjmfjccjhdgjaaGreatDoor
namespace Go.Bd
open Go.RowKit
def figB (l : Bs) : Bs × Bs := if 0 ≤ Lib.indexAny l [32, 9] then (l.take (Lib.indexAny l [32, 9]).toNat, dropL (l.drop (Lib.indexAny l [32, 9]).toNat)) else (l, [])
end Go.Bd
namespace Go.Proofs.YtcjmfjccjhdgjaaGreatDoor
open Go.RowKit Go.Bd
set_option maxRecDepth 100000 in
set_option maxHeartbeats 4000000 in
theorem fig_none {w : World} {O F : Nat → Prop} {rb : Nat} {lv : Value} {pos : Nat} {bv : Value} {bs : List Bl} {dv : Value} {ds : List Dg} (h : Rdr w O F rb lv pos bv bs dv ds) (pb : Nat) (f t : ByteArray) (no : Int) :
    Calls Tryz.prog 35 #[.agg #[.string f, .int .i64 no, .string t], .string ⟨#[]⟩, .pointer (some ⟨pb, 0, none⟩)] w fun e w' => e = .returned (.bool false) ∧ Rdr w' O F rb lv pos bv bs dv ds ∧ Turn w w' O F O F := by
  have hb := (Below.refl w.heap.size w).alloc (Nat.le_refl _) (.cells #[.string f, .int .i64 no, .string t] 62)
  have h1 := h.below hb
  have HR := Lib.hid (And.intro h1 hb)
  clear h h1 hb
  go_enter Tryz.func35, Tryz.ntmps35
  go_wp2
  go_ret
  exact ⟨rfl, HR.out.1, Chg.below HR.out.2 O, fun _ h => .inl h, fun _ h => .inl h, fun _ h => h⟩
set_option maxRecDepth 100000 in
set_option maxHeartbeats 4000000 in
theorem fig_one {w : World} {O F : Nat → Prop} {rb : Nat} {lv : Value} {pos : Nat} {bv : Value} {bs : List Bl} {dv : Value} {ds : List Dg} (h : Rdr w O F rb lv pos bv bs dv ds) {pb : Nat} {tp : TypeId} (hp : Holds w pb tp #[.pointer (some ⟨rb, 0, none⟩)]) (f t : ByteArray) (no : Int) (s : ByteArray) (hs : s.size ≤ 100000) (hne : s ≠ ⟨#[]⟩) (hi : Lib.indexAny s.data.toList [32, 9] < 0) {m : Int} (hm : Glob m w) (h3 : ∀ k, O k → 3 ≤ k)
    (hl : bs.length ≤ 1000000) (hd : ds.length + 1 + (faultsOf (titleB []).1).length ≤ 1000000) :
    Calls Tryz.prog 35 #[.agg #[.string f, .int .i64 no, .string t], .string s, .pointer (some ⟨pb, 0, none⟩)] w fun e w' => e = .returned (.bool true) ∧ ∃ O' F' bv' dv', Rdr w' O' F' rb lv pos bv' (bs ++ [titledB ⟨7, 0, false, ⟨#[]⟩, s, [], [], ⟨#[]⟩, 0⟩ f no ⟨#[]⟩]) dv' (ds ++ titledD f no ⟨#[]⟩) ∧ Turn w w' O F O' F' := by
  have hb := (Below.refl w.heap.size w).alloc (Nat.le_refl _) (.cells #[.string f, .int .i64 no, .string t] 62)
  have hX := Holds.new w 62 #[.string f, .int .i64 no, .string t]
  have CI := indexAnyX_any s ⟨#[32, 9]⟩ (w.alloc (.cells #[.string f, .int .i64 no, .string t] 62)) blanks_ascii (by decide) (by decide) (by omega)
  have e9 : (⟨#[32, 9]⟩ : ByteArray).data.toList = [32, 9] := rfl
  rw [e9] at CI
  obtain ⟨ix, hix⟩ : ∃ ix, Lib.indexAny s.data.toList [32, 9] = ix := ⟨_, rfl⟩
  rw [hix] at CI hi
  have hne2 : s.toList.isEmpty = false := by
    rw [Lib.toList_data]
    cases s with
    | mk d => cases d with
      | mk l => cases l with
        | nil => exact absurd rfl hne
        | cons x r => rfl
  have HR := Lib.hid (And.intro h (And.intro hb (And.intro hX (And.intro hp hm))))
  clear h hb hX hp hm e9 hix
  go_enter Tryz.func35, Tryz.ntmps35
  go_wp2_with fail
  refine CI.mono ?_
  clear CI
  rintro e w2 ⟨rfl, hb2⟩
  have hB2 : Below w.heap.size w w2 := HR.out.2.1.trans (hb2.mono (by simp))
  have hX2 := HR.out.2.2.1.below hb2 HR.out.2.2.1.lt
  have hp2 := HR.out.2.2.2.1.below hB2 HR.out.2.2.2.1.lt
  have hm2 := HR.out.2.2.2.2.chg (Chg.below hB2 (fun _ => False)) (fun _ h => h.elim)
  have h2 := HR.out.1.below hB2
  obtain ⟨d0, d1, d2⟩ := cells3 hX2
  have r0 : _ = some (Value.pointer (some ⟨rb, 0, none⟩)) := hp2.cell 0
  have CT := titled_any h2 ⟨7, 0, false, ⟨#[]⟩, s, [], [], ⟨#[]⟩, 0⟩ (.slice none 0 0) (rows_nil _ _) f t no ⟨#[]⟩ (by decide) hm2 h3 hl hd
  have e7 : ((7 : Nat) : Int) = 7 := rfl
  have e0 : ((0 : Nat) : Int) = 0 := rfl
  simp only [e7, e0] at CT
  have hT2 : Turn w w2 O F O F := ⟨Chg.below hB2 O, fun _ h => .inl h, fun _ h => .inl h, fun _ h => h⟩
  have HT := Lib.hid hT2
  clear hX2 hp2 hm2 h2 e7 e0 hT2 hb2 hB2
  go_wp2_with fail
  refine CT.mono ?_
  clear CT
  rintro e w3 ⟨rfl, O3, F3, bv3, dv3, hr3, ht3⟩
  go_wp2
  go_ret
  exact ⟨rfl, O3, F3, bv3, dv3, hr3, HT.out.trans ht3⟩
set_option maxRecDepth 100000 in
set_option maxHeartbeats 4000000 in
theorem fig_two {w : World} {O F : Nat → Prop} {rb : Nat} {lv : Value} {pos : Nat} {bv : Value} {bs : List Bl} {dv : Value} {ds : List Dg} (h : Rdr w O F rb lv pos bv bs dv ds) {pb : Nat} {tp : TypeId} (hp : Holds w pb tp #[.pointer (some ⟨rb, 0, none⟩)]) (f t : ByteArray) (no : Int) (s : ByteArray) (hs : s.size ≤ 100000) (hne : s ≠ ⟨#[]⟩) (k : Nat) (hk : k < s.size) (hi : Lib.indexAny s.data.toList [32, 9] = (k : Int)) {m : Int} (hm : Glob m w) (h3 : ∀ k, O k → 3 ≤ k)
    (hl : bs.length ≤ 1000000) (R : ByteArray) (hR : R = ⟨(dropL (s.data.toList.drop k)).toArray⟩) (hRs : R.size ≤ 100000) (hd : ds.length + 1 + (faultsOf (titleB R.data.toList).1).length ≤ 1000000) :
    Calls Tryz.prog 35 #[.agg #[.string f, .int .i64 no, .string t], .string s, .pointer (some ⟨pb, 0, none⟩)] w fun e w' => e = .returned (.bool true) ∧ ∃ O' F' bv' dv', Rdr w' O' F' rb lv pos bv' (bs ++ [titledB ⟨7, 0, false, ⟨#[]⟩, s.extract 0 k, [], [], ⟨#[]⟩, 0⟩ f no R]) dv' (ds ++ titledD f no R) ∧ Turn w w' O F O' F' := by
  have hb := (Below.refl w.heap.size w).alloc (Nat.le_refl _) (.cells #[.string f, .int .i64 no, .string t] 62)
  have hX := Holds.new w 62 #[.string f, .int .i64 no, .string t]
  have CI := indexAnyX_any s ⟨#[32, 9]⟩ (w.alloc (.cells #[.string f, .int .i64 no, .string t] 62)) blanks_ascii (by decide) (by decide) (by omega)
  have e9 : (⟨#[32, 9]⟩ : ByteArray).data.toList = [32, 9] := rfl
  rw [e9, hi] at CI
  have hne2 : s.toList.isEmpty = false := by
    rw [Lib.toList_data]
    cases s with
    | mk d => cases d with
      | mk l => cases l with
        | nil => exact absurd rfl hne
        | cons x r => rfl
  have hwd : (s.extract k s.size).data.toList = s.data.toList.drop k := by
    rw [extract_list, List.take_of_length_le (by simp)]
  have htl := fun W => strTrimL_any (s.extract k s.size) W (by rw [ByteArray.size_extract]; omega)
  rw [hwd] at htl
  unfold strV at htl
  rw [← hR] at htl
  have hk0 : (0 : Int) ≤ (k : Int) := by omega
  have hk1 : (k : Int) ≤ (s.size : Int) := by omega
  have HR := Lib.hid (And.intro h (And.intro hb (And.intro hX (And.intro hp hm))))
  clear h hb hX hp hm e9 hi hwd hR
  go_enter Tryz.func35, Tryz.ntmps35
  go_wp2_with fail
  refine CI.mono ?_
  clear CI
  rintro e w2 ⟨rfl, hb2⟩
  have hB2 : Below w.heap.size w w2 := HR.out.2.1.trans (hb2.mono (by simp))
  have hX2 := HR.out.2.2.1.below hb2 HR.out.2.2.1.lt
  have HB2 := Lib.hid (And.intro hB2 hX2)
  clear hb2 hB2 hX2
  go_wp2_with fail
  go_region_with (go_at_call 37; refine (htl _).mono ?_; rintro e w4 ⟨rfl, hb4⟩)
  have hB4 : Below w.heap.size w w4 := HB2.out.1.drew.trans (hb4.mono HB2.out.1.size)
  have hX4 := HB2.out.2.drew.below hb4 HB2.out.2.lt
  have hp4 := HR.out.2.2.2.1.below hB4 HR.out.2.2.2.1.lt
  have hm4 := HR.out.2.2.2.2.chg (Chg.below hB4 (fun _ => False)) (fun _ h => h.elim)
  have h4 := HR.out.1.below hB4
  obtain ⟨d0, d1, d2⟩ := cells3 hX4
  have r0 : _ = some (Value.pointer (some ⟨rb, 0, none⟩)) := hp4.cell 0
  have CT := titled_any h4 ⟨7, 0, false, ⟨#[]⟩, s.extract 0 k, [], [], ⟨#[]⟩, 0⟩ (.slice none 0 0) (rows_nil _ _) f t no R hRs hm4 h3 hl hd
  have e7 : ((7 : Nat) : Int) = 7 := rfl
  have e0 : ((0 : Nat) : Int) = 0 := rfl
  simp only [e7, e0] at CT
  have hT4 : Turn w w4 O F O F := ⟨Chg.below hB4 O, fun _ h => .inl h, fun _ h => .inl h, fun _ h => h⟩
  have HT := Lib.hid hT4
  clear hX4 hp4 hm4 h4 e7 e0 hT4 hb4 hB4
  go_wp2_with fail
  refine CT.mono ?_
  clear CT
  rintro e w3 ⟨rfl, O3, F3, bv3, dv3, hr3, ht3⟩
  go_wp2
  go_ret
  exact ⟨rfl, O3, F3, bv3, dv3, hr3, HT.out.trans ht3⟩
end Go.Proofs.YtcjmfjccjhdgjaaGreatDoor
namespace Go.Proofs.YtcjmfjccjhdgjaaGreatDoor
open Go.RowKit Go.Bd
theorem note_any (kd : ByteArray) (pb : Nat) (w : World) :
    Calls Tryz.prog 31 #[.string kd, .pointer (some ⟨pb, 0, none⟩)] w fun e w' => e = .returned (.func (.func 32) #[] #[.pointer (some ⟨w.heap.size, 0, none⟩), .pointer (some ⟨pb, 0, none⟩)]) ∧ w' = w.alloc (.cells #[.string kd] 9) := by
  go_enter Tryz.func31, Tryz.ntmps31
  go_wp2
  go_ret
  exact ⟨rfl, rfl⟩
end Go.Proofs.YtcjmfjccjhdgjaaGreatDoor
namespace Go.Bd
def tr (b : ByteArray) : ByteArray := ⟨(trim b.data.toList).toArray⟩
def bar : ByteArray := ⟨#[124]⟩
def pieces (b : ByteArray) : List ByteArray := Lib.splitB bar 0 (Lib.countB b bar) b
def dropEnd (xs : List ByteArray) : List ByteArray := if 1 < xs.length ∧ xs.getD (xs.length - 1) ⟨#[]⟩ = ⟨#[]⟩ then xs.take (xs.length - 1) else xs
def beginsB (s : ByteArray) : Bool := Lib.hasPrefix (trim s.data.toList) [124]
def rowOf (s : ByteArray) : List ByteArray := dropEnd ((pieces ⟨(Lib.trimPrefix (trim s.data.toList) [124]).toArray⟩).map tr)
theorem pieces_length (b : ByteArray) : (pieces b).length = Lib.countB b bar + 1 := Lib.splitB_all bar (by decide) 0 _ b rfl
theorem tr_le (b : ByteArray) : (tr b).size ≤ b.size := by
  have := trim_le b.data.toList
  rw [← size_list] at this
  exact this
theorem extract_size_le (s : ByteArray) (a b : Nat) : (s.extract a b).size ≤ s.size := by rw [ByteArray.size_extract]; omega
theorem splitB_size : ∀ (k : Nat) (s p : ByteArray), p ∈ Lib.splitB bar 0 k s → p.size ≤ s.size
  | 0, s, p, h => by
    rw [Lib.splitB, List.mem_singleton] at h; subst h; exact Nat.le_refl _
  | k + 1, s, p, h => by
    rw [Lib.splitB] at h
    split at h
    · rw [List.mem_singleton] at h; subst h; exact Nat.le_refl _
    · rcases List.mem_cons.1 h with rfl | h
      · exact extract_size_le _ _ _
      · exact Nat.le_trans (splitB_size k _ p h) (extract_size_le _ _ _)
theorem pieces_size {b p : ByteArray} (h : p ∈ pieces b) : p.size ≤ b.size := splitB_size _ _ _ h
end Go.Bd
namespace Go.Proofs.YtcjmfjccjhdgjaaGreatDoor
open Go.RowKit Go.Bd
theorem ba_ext {s t : ByteArray} (h : s.data.toList = t.data.toList) : s = t := by
  cases s; cases t
  rw [ByteArray.mk.injEq]
  exact Array.toList_inj.1 h
theorem ba_nonempty {s : ByteArray} (h : ¬ s = ⟨#[]⟩) : s.toList.isEmpty = false := by
  rw [ByteArray.toList_eq]
  cases e : s.data.toList with
  | nil => exact absurd (ba_ext (t := ⟨#[]⟩) e) h
  | cons a l => rfl
theorem str_info : (Tryz.prog.info? 9).map (fun i => (i.zero, i.size, i.bytes)) = some (some (.string ⟨#[]⟩), 1, 16) := by kernel_rfl
theorem mix_step {α β : Type} (f : α → β) (g : α → β) (xs : List α) (k : Nat) (x : α) (h : xs[k]? = some x) :
    ((xs.take k).map f ++ (xs.drop k).map g).set k (f x) = (xs.take (k + 1)).map f ++ (xs.drop (k + 1)).map g := by
  obtain ⟨hk, e⟩ := List.getElem?_eq_some_iff.1 h
  rw [List.set_append, if_neg (by simp; omega), List.take_succ_eq_append_getElem hk, e, List.map_append, List.append_assoc]
  congr 1
  rw [List.length_map, List.length_take, Nat.min_eq_left (by omega), Nat.sub_self, List.drop_eq_getElem_cons hk, List.map_cons, List.set_cons_zero]
  rfl
theorem mix_at {α β : Type} (f : α → β) (g : α → β) (xs : List α) (k : Nat) (x : α) (h : xs[k]? = some x) : ((xs.take k).map f ++ (xs.drop k).map g)[k]? = some (g x) := by
  obtain ⟨hk, e⟩ := List.getElem?_eq_some_iff.1 h
  rw [List.getElem?_append_right (by simp; omega), List.length_map, List.length_take, Nat.min_eq_left (by omega), Nat.sub_self, List.drop_eq_getElem_cons hk, e]
  rfl
def trV (b : ByteArray) : Value := strV (trim b.data.toList)
theorem row_none (s : ByteArray) (w : World) (hs : s.size ≤ 2147483647) (hb : beginsB s = false) :
    Calls Tryz.prog 65 #[.string s] w fun e w' => e = .returned (.tuple #[.slice none 0 0, .int .i64 4]) ∧ Below w.heap.size w w' := by
  have ct := strTrim_any s w (by omega)
  have cp := fun w' => Tryz.strings_CutPrefix ⟨(trim s.data.toList).toArray⟩ bar w'
  rw [show Lib.hasPrefix (⟨(trim s.data.toList).toArray⟩ : ByteArray).data.toList bar.data.toList = false from hb] at cp
  unfold bar at cp
  generalize (⟨(trim s.data.toList).toArray⟩ : ByteArray).data.toList = l at cp
  generalize Lib.trimPrefix l _ = r at cp
  unfold strV at ct
  go_enter Tryz.func65, Tryz.ntmps65
  go_wp2_with (first
    | (go_at_call 29; refine ct.mono ?_; rintro e w1 ⟨rfl, hb⟩)
    | (go_at_call 89; refine (cp _).mono ?_; rintro e w2 ⟨rfl, hw⟩; subst hw))
  go_ret2
  exact ⟨rfl, hb⟩
theorem own_lit (w : World) (e : TypeId) (xs : List Value) (h : xs.length ≤ maxLen) : (w.alloc (.cells xs.toArray e)).ownsRow w.heap.size e 1 (.slice (some ⟨w.heap.size, 0, none⟩) xs.length xs.length) xs.length xs :=
  ⟨by simp, .inr ⟨w.heap.size, xs.length, xs.toArray, rfl, Nat.le_refl _, heap_alloc_new w _, Nat.le_refl _, h, by simp, by simp⟩⟩
set_option maxRecDepth 100000 in
set_option maxHeartbeats 1000000 in
theorem row_some (s : ByteArray) (w : World) (m : Int) (hm : w.cell? ⟨0, 0, none⟩ = some (.int .i64 m)) (hs : s.size ≤ 2147483647) (hb : beginsB s = true) :
    Calls Tryz.prog 65 #[.string s] w fun e w' => ∃ v, e = .returned (.tuple #[v, .int .i64 0]) ∧ w'.ownsRow w.heap.size 9 1 v (rowOf s).length ((rowOf s).map Value.string) ∧ Below w.heap.size w w' := by
  have hle := trim_le s.data.toList
  rw [← size_list] at hle
  have ct := strTrim_any s w (by omega)
  have hmg : 0 < w.heap.size := World.block_lt_of_cell? w _ hm
  have cp := fun w' => Tryz.strings_CutPrefix ⟨(trim s.data.toList).toArray⟩ bar w'
  rw [show Lib.hasPrefix (⟨(trim s.data.toList).toArray⟩ : ByteArray).data.toList bar.data.toList = true from hb] at cp
  obtain ⟨bh, hbh⟩ : ∃ bh : ByteArray, bh = ⟨(Lib.trimPrefix (trim s.data.toList) [124]).toArray⟩ := ⟨_, rfl⟩
  have hbs : bh.size ≤ 2147483647 := by
    rw [hbh, size_mk]
    have : (Lib.trimPrefix (trim s.data.toList) [124]).length ≤ (trim s.data.toList).length := by
      unfold Lib.trimPrefix; split <;> simp
    omega
  have hro : rowOf s = dropEnd ((pieces bh).map tr) := by rw [hbh]; rfl
  rw [show (⟨(Lib.trimPrefix (⟨(trim s.data.toList).toArray⟩ : ByteArray).data.toList bar.data.toList).toArray⟩ : ByteArray) = bh from hbh.symm] at cp
  clear hbh
  have cs := fun (w' : World) (hm' : w'.cell? ⟨0, 0, none⟩ = some (.int .i64 m)) => Tryz.strings_Split bh bar m w' (by omega) hm' (by decide)
  have hpl := pieces_length bh
  have hcl := Lib.countB_le bar (by decide) _ bh (Nat.le_refl _)
  unfold bar at cp
  generalize (trim s.data.toList) = l at ct cp
  unfold strV at ct
  rw [hro]
  clear hro hb hle
  go_enter Tryz.func65, Tryz.ntmps65
  go_wp2_with (first
    | (go_at_call 29; refine ct.mono ?_; rintro e w1 ⟨rfl, hb1⟩)
    | (go_at_call 89; refine (cp _).mono ?_; rintro e w2 ⟨rfl, hw⟩; subst hw))
  have hm1 := (hb1.cell (p := ⟨0, 0, none⟩) hmg).trans hm
  have c1 : Calls Tryz.prog 90 #[.string bh, .string ⟨#[124]⟩] w2 fun e w' => e = .returned (.slice (some ⟨w2.heap.size, 0, none⟩) (pieces bh).length (pieces bh).length) ∧ w' = w2.alloc (.cells ((pieces bh).map Value.string).toArray 9) := by
    rw [hpl]; exact cs _ hm1
  have ho := own_lit w2 9 ((pieces bh).map Value.string) (by rw [List.length_map]; unfold maxLen; omega)
  rw [List.length_map] at ho
  have hb2 : Below w.heap.size w (w2.alloc (.cells ((pieces bh).map Value.string).toArray 9)) := hb1.alloc hb1.size _
  have HPS := Lib.hid (fun p (hp : p ∈ pieces bh) => pieces_size hp)
  have hn1 : 1 ≤ (pieces bh).length := by omega
  have hn2 : (pieces bh).length ≤ 2147483648 := by omega
  generalize hP : pieces bh = P at c1 ho hb2 HPS hn1 hn2 ⊢
  have HP := Lib.hid hP
  clear hP cs hpl hcl cp ct
  generalize hn : P.length = n at c1 ho hn1 hn2
  have HN := Lib.hid hn
  clear hn
  refine c1.mono ?_
  clear c1
  rintro e w3 ⟨rfl, rfl⟩
  have hg0 := hb1.size
  generalize w2.alloc (.cells (P.map Value.string).toArray 9) = w3 at ho hb2 ⊢
  generalize w2.heap.size = g at ho hg0 ⊢
  go_wp2
  go_loopg [23] n (fun r i wr => ∃ k : Nat, k + r = n ∧ i = .int .i64 k ∧ wr.ownsRow g 9 1 (.slice (some ⟨g, 0, none⟩) n n) n ((P.take k).map trV ++ (P.drop k).map Value.string) ∧ Below w.heap.size w wr)
  case atStart => exact ⟨0, by omega, rfl, by simpa using ho, hb2⟩
  case round =>
    clear ho hb2
    obtain ⟨k, hk, rfl, hown, hbl⟩ := hrel
    by_cases hlt : k < n
    · obtain ⟨p, hp⟩ : ∃ p, P[k]? = some p := ⟨_, List.getElem?_eq_getElem (by rw [HN.out]; exact hlt)⟩
      have HST := Lib.hid (mix_step trV Value.string P k p hp)
      have hcp := own_cell hown (mix_at trV Value.string P k p hp)
      have hsz := HPS.out p (List.mem_of_getElem? hp)
      have ct := fun w' => strTrim_any p w' (by omega)
      have hv : strV (trim p.data.toList) = Value.string (tr p) := rfl
      have hv2 : trV p = Value.string (tr p) := rfl
      rw [hv] at ct
      rw [hv2] at HST
      clear hv hv2 hp
      generalize tr p = q at ct HST
      have hfr := own_free hown k
      go_wp2_with (go_at_call 29; refine (ct _).mono ?_; rintro e w4 ⟨rfl, hb4⟩; have hown4 := own_below hown hb4; have hc4 := (hb4.cell (p := ⟨g, k, none⟩) (World.block_lt_of_cell? _ _ hcp)).trans hcp; have hf4 := own_free hown4 k)
      have hset := own_set hown4 k (.string q)
      have hbl4 := (hbl.trans (hb4.mono hbl.size)).setCell (p := ⟨g, k, none⟩) hg0 (.string q)
      go_roundg (gk - 1)
      case measure => omega
      case rel => exact ⟨k + 1, by omega, by go_num, by rw [← HST.out]; exact hset, hbl4⟩
    · have hkn : k = n := by omega
      subst hkn
      have e0 : (P.take k).map trV ++ (P.drop k).map Value.string = (P.map tr).map Value.string := by
        rw [List.take_of_length_le (by rw [HN.out]; omega), List.drop_of_length_le (by rw [HN.out]; omega), List.map_nil, List.append_nil, List.map_map]
        rfl
      rw [e0] at hown
      clear e0
      have hQ : (P.map tr).length = k := by rw [List.length_map, HN.out]
      clear HPS HN
      obtain ⟨Q, hQd⟩ : ∃ Q, P.map tr = Q := ⟨_, rfl⟩
      rw [hQd] at hown hQ
      have HQ := Lib.hid hQd
      clear hQd
      obtain ⟨q, hq⟩ : ∃ q, Q[k - 1]? = some q := ⟨_, List.getElem?_eq_getElem (by omega)⟩
      have hcq := own_cell hown (j := k - 1) (u := .string q) (by rw [List.getElem?_map, hq]; rfl)
      have hcells := fun (j : Nat) u (hj : (Q.map Value.string)[j]? = some u) => own_cell hown hj
      have hgl := World.block_lt_of_cell? _ _ hcq
      simp only at hgl
      by_cases hk1 : 1 < k
      · by_cases hqe : q = ⟨#[]⟩
        · have e1 : dropEnd Q = Q.take (k - 1) := by
            rw [dropEnd, if_pos, hQ]
            rw [hQ, List.getD_eq_getElem?_getD, hq]
            exact ⟨hk1, hqe⟩
          have hl1 : (Q.take (k - 1)).length = k - 1 := by rw [List.length_take]; omega
          have HC := Lib.hid hcells
          have HD : Hid (∀ (j : Nat) u, ((Q.take (k - 1)).map Value.string)[j]? = some u → wr.cell? ⟨g, 0 + j, none⟩ = some u) := by
            intro j u hj
            rw [Nat.zero_add]
            refine HC.out j u ?_
            rw [List.map_take] at hj
            rw [List.getElem?_take] at hj
            split at hj
            · exact hj
            · cases hj
          have HL1 := Lib.hid hl1
          have H1 : Hid (∀ u ∈ (Q.take (k - 1)).map Value.string, u.oneCell' = true) := by
            intro u hu
            obtain ⟨_, _, rfl⟩ := List.mem_map.1 hu
            rfl
          subst hqe
          have E1 := Lib.hid e1
          clear hcells e1 hl1 HC hq hQ
          generalize (Q.take (k - 1)) = R at HD HL1 H1 E1
          obtain ⟨m, rfl⟩ : ∃ m, k = m + 1 := ⟨k - 1, by omega⟩
          simp only [Nat.add_sub_cancel] at HL1 hcq
          go_wp2_with (at_make; refine wpList_make1 _ rfl _ _ 22 rfl w.heap.size 9 (.string ⟨#[]⟩) 16 Tryz.underlying22 str_info rfl _ _ _ _ m rfl rfl (by omega) (by omega) (by omega) (by unfold maxLen; omega) (by have := hbl.size; omega) ?_)
          intro w5 hown5 hgr5
          have hb5 : Below wr.heap.size wr w5 := (Below.refl _ _).grown hgr5 (Nat.le_refl _) (fun k h => by cases h)
          have HD5 : Hid (∀ (j : Nat) u, (R.map Value.string)[j]? = some u → w5.cell? ⟨g, 0 + j, none⟩ = some u) := fun j u hj => (hb5.cell (p := ⟨g, 0 + j, none⟩) hgl).trans (HD.out j u hj)
          obtain ⟨w6, hcp, hown6, hgr6⟩ := own_copy (P := Tryz.prog) w5 22 3 w.heap.size 9 Tryz.underlying22 (by kernel_rfl) wr.heap.size m _ _ (R.map Value.string) hown5 g 0 (m + 1) (by rw [List.length_map]; exact HL1.out) HD5.out H1.out
          unfold goInt at hcp
          go_wp2
          go_ret2
          rw [HP.out, HQ.out, E1.out, HL1.out]
          exact ⟨_, rfl, hown6, (hbl.grown hgr5 hbl.size (fun k h => by cases h)).grown hgr6 (by have := hbl.size; have := hgr5.size; omega) (fun k h => by cases h; exact hbl.size)⟩
        · have e1 : dropEnd Q = Q := by
            rw [dropEnd, if_neg]
            rw [hQ, List.getD_eq_getElem?_getD, hq]
            exact fun h => hqe h.2
          have hne := ba_nonempty hqe
          have HD : Hid (∀ (j : Nat) u, (Q.map Value.string)[j]? = some u → wr.cell? ⟨g, 0 + j, none⟩ = some u) := by
            intro j u hj
            rw [Nat.zero_add]
            exact hcells j u hj
          have HL1 := Lib.hid hQ
          have H1 : Hid (∀ u ∈ Q.map Value.string, u.oneCell' = true) := by
            intro u hu
            obtain ⟨_, _, rfl⟩ := List.mem_map.1 hu
            rfl
          have E1 := Lib.hid e1
          clear hcells e1 hq hQ
          obtain ⟨R, hR⟩ : ∃ R, R = Q := ⟨Q, rfl⟩
          subst hR
          obtain ⟨m, rfl⟩ : ∃ m, k = m + 1 := ⟨k - 1, by omega⟩
          simp only [Nat.add_sub_cancel] at hcq
          go_wp2_with (at_make; refine wpList_make1 _ rfl _ _ 22 rfl w.heap.size 9 (.string ⟨#[]⟩) 16 Tryz.underlying22 str_info rfl _ _ _ _ (m + 1) rfl rfl (by omega) (by omega) (by omega) (by unfold maxLen; omega) (by have := hbl.size; omega) ?_)
          intro w5 hown5 hgr5
          have hb5 : Below wr.heap.size wr w5 := (Below.refl _ _).grown hgr5 (Nat.le_refl _) (fun k h => by cases h)
          have HD5 : Hid (∀ (j : Nat) u, (R.map Value.string)[j]? = some u → w5.cell? ⟨g, 0 + j, none⟩ = some u) := fun j u hj => (hb5.cell (p := ⟨g, 0 + j, none⟩) hgl).trans (HD.out j u hj)
          obtain ⟨w6, hcp, hown6, hgr6⟩ := own_copy (P := Tryz.prog) w5 22 3 w.heap.size 9 Tryz.underlying22 (by kernel_rfl) wr.heap.size (m + 1) _ _ (R.map Value.string) hown5 g 0 (m + 1) (by rw [List.length_map]; exact HL1.out) HD5.out H1.out
          unfold goInt at hcp
          go_wp2
          go_ret2
          rw [HP.out, HQ.out, E1.out, HL1.out]
          exact ⟨_, rfl, hown6, (hbl.grown hgr5 hbl.size (fun k h => by cases h)).grown hgr6 (by have := hbl.size; have := hgr5.size; omega) (fun k h => by cases h; exact hbl.size)⟩
      · have e1 : dropEnd Q = Q := by
          rw [dropEnd, if_neg]
          rw [hQ]
          exact fun h => hk1 h.1
        have HD : Hid (∀ (j : Nat) u, (Q.map Value.string)[j]? = some u → wr.cell? ⟨g, 0 + j, none⟩ = some u) := by
          intro j u hj
          rw [Nat.zero_add]
          exact hcells j u hj
        have HL1 := Lib.hid hQ
        have H1 : Hid (∀ u ∈ Q.map Value.string, u.oneCell' = true) := by
          intro u hu
          obtain ⟨_, _, rfl⟩ := List.mem_map.1 hu
          rfl
        have E1 := Lib.hid e1
        clear hcells e1 hq hQ
        obtain ⟨R, hR⟩ : ∃ R, R = Q := ⟨Q, rfl⟩
        subst hR
        go_wp2_with (at_make; refine wpList_make1 _ rfl _ _ 22 rfl w.heap.size 9 (.string ⟨#[]⟩) 16 Tryz.underlying22 str_info rfl _ _ _ _ k rfl rfl (by omega) (by omega) (by omega) (by unfold maxLen; omega) (by have := hbl.size; omega) ?_)
        intro w5 hown5 hgr5
        have hb5 : Below wr.heap.size wr w5 := (Below.refl _ _).grown hgr5 (Nat.le_refl _) (fun k h => by cases h)
        have HD5 : Hid (∀ (j : Nat) u, (R.map Value.string)[j]? = some u → w5.cell? ⟨g, 0 + j, none⟩ = some u) := fun j u hj => (hb5.cell (p := ⟨g, 0 + j, none⟩) hgl).trans (HD.out j u hj)
        obtain ⟨w6, hcp, hown6, hgr6⟩ := own_copy (P := Tryz.prog) w5 22 3 w.heap.size 9 Tryz.underlying22 (by kernel_rfl) wr.heap.size k _ _ (R.map Value.string) hown5 g 0 k (by rw [List.length_map]; exact HL1.out) HD5.out H1.out
        unfold goInt at hcp
        go_wp2
        go_ret2
        rw [HP.out, HQ.out, E1.out, HL1.out]
        exact ⟨_, rfl, hown6, (hbl.grown hgr5 hbl.size (fun k h => by cases h)).grown hgr6 (by have := hbl.size; have := hgr5.size; omega) (fun k h => by cases h; exact hbl.size)⟩
end Go.Proofs.YtcjmfjccjhdgjaaGreatDoor
namespace Go.Proofs.YtcjmfjccjhdgjaaGreatDoor
open Go.RowKit Go.Bd
def evenB (ns : List Nat) : Bool := ns.all (· == ns.headD 0)
theorem evenB_true {ns : List Nat} (h : ∀ (j : Nat) n, j < ns.length → ns[j]? = some n → n = ns.headD 0) : evenB ns = true := by
  rw [evenB, List.all_eq_true]
  intro n hn
  obtain ⟨j, hj⟩ := List.mem_iff_getElem?.1 hn
  have := h j n (List.getElem?_eq_some_iff.1 hj).1 hj
  rw [this]; simp
theorem evenB_false {ns : List Nat} {j n : Nat} (h : ns[j]? = some n) (hn : n ≠ ns.headD 0) : evenB ns = false := by
  rw [evenB, List.all_eq_false]
  exact ⟨n, List.mem_of_getElem? h, by simpa using hn⟩
set_option maxRecDepth 100000 in
set_option maxHeartbeats 1000000 in
theorem even_any (v : Value) (vs : List Value) (ns : List Nat) (w : World) (B : Nat) (hR : Rd w B v vs) (hB : B ≤ w.heap.size) (hl : vs.length = ns.length) (hc : ∀ (j n : Nat), ns[j]? = some n → ∃ A c, vs[j]? = some (.slice A n c)) (hlen : ns.length ≤ 1000000) :
    Calls Tryz.prog 66 #[v] w fun e w' => e = .returned (.bool (evenB ns)) ∧ Below w.heap.size w w' := by
  obtain ⟨A, c, rfl, hcl, f⟩ := hR.form
  have HL := Lib.hid hl
  rw [hl] at hcl ⊢
  have F : Hid (∀ (j n : Nat), ns[j]? = some n → ∃ b off A' c', A = some ⟨b, off, none⟩ ∧ b < w.heap.size ∧ w.cell? ⟨b, off + j, none⟩ = some (.slice A' n c')) := fun j n hj => by
    obtain ⟨A', c', hv⟩ := hc j n hj
    obtain ⟨b, off, h1, h2, h3⟩ := f j _ hv
    exact ⟨b, off, A', c', h1, by omega, h3⟩
  clear f hc hR hl
  generalize hm : ns.length = m at hlen hcl ⊢
  have HM := Lib.hid hm
  clear hm
  go_enter Tryz.func66, Tryz.ntmps66
  go_wp2
  go_loopg [7] m (fun r i wr => ∃ k : Nat, k + r = m ∧ i = .int .i64 k ∧ Hid (∀ (j n : Nat), j < k → ns[j]? = some n → n = ns.headD 0) ∧ Below w.heap.size w wr)
  case atStart => exact ⟨0, by omega, rfl, fun _ _ h => absurd h (by omega), Below.refl _ _⟩
  case round =>
    obtain ⟨k, hk, rfl, HE, hbl⟩ := hrel
    by_cases hlt : k < m
    · obtain ⟨n, hn⟩ : ∃ x, ns[k]? = some x := ⟨_, List.getElem?_eq_getElem (by rw [HM.out]; exact hlt)⟩
      obtain ⟨n0, hn0⟩ : ∃ x, ns[0]? = some x := ⟨_, List.getElem?_eq_getElem (by rw [HM.out]; omega)⟩
      obtain ⟨b, off, A1, c1, rfl, hb, hc1⟩ := F.out k n hn
      obtain ⟨_, _, A0, c0, e1, _, hc0⟩ := F.out 0 n0 hn0
      cases e1
      replace hc1 := (hbl.cell (p := ⟨b, off + k, none⟩) hb).trans hc1
      replace hc0 := (hbl.cell (p := ⟨b, off + 0, none⟩) hb).trans hc0
      have HH : Hid (ns.headD 0 = n0) := by
        cases ns with
        | nil => simp at hn0
        | cons a l => simp at hn0; exact hn0
      have HN := Lib.hid hn
      clear hn hn0
      rw [Nat.add_zero] at hc0
      have hbs := hbl.size
      have hbw : b < wr.heap.size := by omega
      by_cases he : n = n0
      · have HN0 := Lib.hid he
        have ht : ((n : Int) != (n0 : Int)) = false := by simp; exact_mod_cast he
        clear he
        go_wp2
        go_quiet (fail)
        go_wp2
        go_roundg (gk - 1)
        case measure => omega
        case rel =>
          refine ⟨k + 1, by omega, by go_num, fun j q hj hq => ?_, Go.below_drewN (hbl.alloc hbs _) _⟩
          by_cases hjk : j < k
          · exact HE.out j q hjk hq
          · obtain rfl : j = k := by omega
            rw [HN.out] at hq
            cases hq
            rw [HH.out]; exact HN0.out
      · have hv : evenB ns = false := evenB_false HN.out (by rw [HH.out]; exact he)
        have HV := Lib.hid hv
        have ht : ((n : Int) != (n0 : Int)) = true := by simp; exact_mod_cast he
        clear he hv
        go_wp2
        go_quiet (fail)
        go_wp2
        go_ret
        exact ⟨ret_bool HV.out.symm, Go.below_drewN (hbl.alloc hbs _) _⟩
    · have HV : Hid (evenB ns = true) := evenB_true fun j n hj hn => HE.out j n (by rw [HM.out] at hj; omega) hn
      go_wp2
      go_ret
      exact ⟨ret_bool HV.out.symm, hbl⟩
end Go.Proofs.YtcjmfjccjhdgjaaGreatDoor
namespace Go.Bd
open Go.RowKit
theorem faults_le (s : Bs) : (faultsOf s).length ≤ s.length := by
  have hI := Inv.run (s := s) s.length 0 Pst.first Inv.first (Nat.zero_le _) (by omega)
  have h1 := (hI.drop (n := 0) hI.2.2.1).1
  have h2 : Inv (endP s) s.length := h1
  unfold faultsOf
  rw [List.length_map, (sortF_perm (faultsAt s)).length_eq]
  have h3 := h2.2.1
  have h4 := h2.2.2.1
  have h5 : (faultsAt s).length = (endP s).faults.length := rfl
  omega
def wtX : List Ln → Nat
  | [] => 0
  | x :: l => x.text.size + 1 + wtX l
theorem wtX_append : ∀ a b : List Ln, wtX (a ++ b) = wtX a + wtX b
  | [], b => by simp [wtX]
  | x :: a, b => by rw [List.cons_append, wtX, wtX, wtX_append a b]; omega
theorem wtX_split (l : List Ln) (k : Nat) : wtX (l.take k) + wtX (l.drop k) = wtX l := by rw [← wtX_append, List.take_append_drop]
theorem wtX_len : ∀ l : List Ln, l.length ≤ wtX l
  | [] => Nat.le_refl _
  | x :: l => by have := wtX_len l; rw [wtX, List.length_cons]; omega
theorem wtX_mem : ∀ {l : List Ln} {x : Ln}, x ∈ l → x.text.size + 1 ≤ wtX l
  | [], x, h => by cases h
  | y :: l, x, h => by
    rw [wtX]
    rcases List.mem_cons.1 h with rfl | h
    · omega
    · have := wtX_mem h; omega
def endN (k n : Nat) : Nat := if k < n then k + 1 else k
theorem endN_le {k n : Nat} (h : k ≤ n) : endN k n ≤ n := by unfold endN; split <;> omega
end Go.Bd
namespace Go.Proofs.YtcjmfjccjhdgjaaGreatDoor
open Go.RowKit Go.Bd
def rowT (x : Ln) : List (List (List Sp)) := if trim x.text.data.toList = [] ∨ beginsB (tr x.text) = false then [] else [(rowOf (tr x.text)).map fun t => spansOf t.data.toList]
def rowF (x : Ln) : List Dg := if trim x.text.data.toList = [] then [] else if beginsB (tr x.text) = false then [⟨x.file, x.no, 9, tr x.text⟩] else (rowOf (tr x.text)).flatMap fun t => (faultsOf t.data.toList).map (dgOf x.file x.no t)
def tabN (rest : List Ln) : Nat := untilN (fun t => t == barsL) rest
def tabR (rest : List Ln) : List (List (List Sp)) := (rest.take (tabN rest)).flatMap rowT
def tabF (rest : List Ln) : List Dg := (rest.take (tabN rest)).flatMap rowF
def tabT (s : ByteArray) : ByteArray := ⟨(dropL (s.data.toList.drop 4)).toArray⟩
def tabE (f : ByteArray) (no : Int) (s : ByteArray) (rest : List Ln) : List Dg := (if tabN rest < rest.length then [] else [⟨f, no, 4, s⟩]) ++ (if evenB ((tabR rest).map List.length) = true then [] else [⟨f, no, 9, s⟩])
abbrev Told : Type := Nat × List Bl × List Dg
def tableR (f : ByteArray) (no : Int) (s : ByteArray) (rest : List Ln) : Told :=
  (endN (tabN rest) rest.length, [titledB ⟨6, 0, false, ⟨#[]⟩, ⟨#[]⟩, [], tabR rest, ⟨#[]⟩, 0⟩ f no (tabT s)], tabE f no s rest ++ titledD f no (tabT s) ++ tabF rest)
def codeR (f : ByteArray) (no : Int) (s : ByteArray) (rest : List Ln) : Told :=
  (endN (codeN rest 0) rest.length, [⟨4, 0, false, ⟨#[]⟩, ⟨(Lib.join (codeT rest 0) [10]).toArray⟩, [], [], f, no⟩], if codeN rest 0 < rest.length then [] else [⟨f, no, 4, s⟩])
def paraR (f : ByteArray) (no : Int) (s : ByteArray) (rest : List Ln) : Told :=
  (untilN (fun t => !plainL t) rest, [⟨2, 0, false, ⟨#[]⟩, ⟨#[]⟩, spansOf (paraB rest 0 s), [], f, no⟩], (faultsOf (paraB rest 0 s)).map (dgOf f no ⟨(paraB rest 0 s).toArray⟩))
def headR (f : ByteArray) (no : Int) (s : ByteArray) : Told :=
  (0, [titledB ⟨1, (leadB s.data.toList 61).1, false, ⟨#[]⟩, ⟨#[]⟩, [], [], ⟨#[]⟩, 0⟩ f no ⟨(leadB s.data.toList 61).2.toArray⟩], titledD f no ⟨(leadB s.data.toList 61).2.toArray⟩)
def itemR (f : ByteArray) (no : Int) (s : ByteArray) : Told :=
  (0, [⟨3, (itemB s.data.toList).1, (itemB s.data.toList).2.1, ⟨#[]⟩, ⟨#[]⟩, spansOf (itemB s.data.toList).2.2, [], f, no⟩], (faultsOf (itemB s.data.toList).2.2).map (dgOf f no ⟨(itemB s.data.toList).2.2.toArray⟩))
def readR (f : ByteArray) (no : Int) (s : ByteArray) (rest : List Ln) : Told :=
  if 0 < (leadB s.data.toList 61).1 then headR f no s
  else if 0 < (itemB s.data.toList).1 then itemR f no s
  else if s.data.toList = [] then (0, [], [])
  else if s.data.toList = fenceL then codeR f no s rest
  else if Lib.hasPrefix s.data.toList barsL = true then tableR f no s rest
  else paraR f no s rest
def noteR (f : ByteArray) (no : Int) (wd bh : Bs) : Told :=
  (0, [⟨5, 0, false, ⟨#[]⟩, ⟨wd.toArray⟩, spansOf bh, [], f, no⟩], (faultsOf bh).map (dgOf f no ⟨bh.toArray⟩))
def figR (f : ByteArray) (no : Int) (bh : Bs) : Told :=
  (0, [titledB ⟨7, 0, false, ⟨#[]⟩, ⟨(figB bh).1.toArray⟩, [], [], ⟨#[]⟩, 0⟩ f no ⟨(figB bh).2.toArray⟩], titledD f no ⟨(figB bh).2.toArray⟩)
def wordR (f : ByteArray) (no : Int) (s : ByteArray) : Told := (0, [], [⟨f, no, 3, s⟩])
def cmdR (f : ByteArray) (no : Int) (s : ByteArray) (wd bh : Bs) : Told :=
  if wd = [102, 105, 103] then (if bh = [] then wordR f no s else figR f no bh)
  else if wd = [110, 111, 116, 101] ∨ wd = [116, 105, 112] ∨ wd = [119, 97, 114, 110] then noteR f no wd bh
  else wordR f no s
def stepR (x : Ln) (rest : List Ln) : Told :=
  match commandB (trim x.text.data.toList) with
  | some p => cmdR x.file x.no (tr x.text) p.1 p.2
  | none => readR x.file x.no (tr x.text) rest
def parseR : Nat → List Ln → List Bl × List Dg
  | 0, _ => ([], [])
  | _ + 1, [] => ([], [])
  | n + 1, x :: rest => ((stepR x rest).2.1 ++ (parseR n (rest.drop (stepR x rest).1)).1, (stepR x rest).2.2 ++ (parseR n (rest.drop (stepR x rest).1)).2)
def blocksOf (l : List Ln) : List Bl := (parseR l.length l).1
def diagsOf (l : List Ln) : List Dg := (parseR l.length l).2
theorem parseR_fuel : ∀ (n m : Nat) (l : List Ln), l.length ≤ n → l.length ≤ m → parseR n l = parseR m l
  | 0, m, l, h, _ => by
    have : l = [] := List.length_eq_zero_iff.1 (by omega)
    subst this
    cases m <;> rfl
  | n + 1, 0, l, _, h => by
    have : l = [] := List.length_eq_zero_iff.1 (by omega)
    subst this
    rfl
  | n + 1, m + 1, [], _, _ => rfl
  | n + 1, m + 1, x :: rest, h, h' => by
    have e := parseR_fuel n m (rest.drop (stepR x rest).1) (by simp at h ⊢; omega) (by simp at h' ⊢; omega)
    rw [parseR, parseR, e]
theorem blocksOf_nil : blocksOf [] = [] := rfl
theorem diagsOf_nil : diagsOf [] = [] := rfl
theorem blocksOf_cons (x : Ln) (rest : List Ln) : blocksOf (x :: rest) = (stepR x rest).2.1 ++ blocksOf (rest.drop (stepR x rest).1) := by
  unfold blocksOf
  rw [List.length_cons, parseR, parseR_fuel rest.length (rest.drop (stepR x rest).1).length _ (by simp) (Nat.le_refl _)]
theorem diagsOf_cons (x : Ln) (rest : List Ln) : diagsOf (x :: rest) = (stepR x rest).2.2 ++ diagsOf (rest.drop (stepR x rest).1) := by
  unfold diagsOf
  rw [List.length_cons, parseR, parseR_fuel rest.length (rest.drop (stepR x rest).1).length _ (by simp) (Nat.le_refl _)]
theorem titledD_le (f : ByteArray) (no : Int) (s : ByteArray) : (titledD f no s).length ≤ 1 + s.size := by
  have h1 := titleB_le s.data.toList
  have h2 := faults_le (titleB s.data.toList).1
  have h3 := size_list s
  have h4 : (titledW f no s).length ≤ 1 := by unfold titledW; split <;> simp
  unfold titledD
  rw [List.length_append, List.length_map]
  omega
theorem untilN_take (st : Bs → Bool) (l : List Ln) : wtX (l.take (untilN st l)) ≤ wtX l := by have := wtX_split l (untilN st l); omega
theorem read_le (f : ByteArray) (no : Int) (s : ByteArray) (rest : List Ln) : (readR f no s rest).1 ≤ rest.length := by
  unfold readR
  split
  · exact Nat.zero_le _
  · split
    · exact Nat.zero_le _
    · split
      · exact Nat.zero_le _
      · split
        · exact endN_le (untilN_le _ _)
        · split
          · exact endN_le (untilN_le _ _)
          · exact untilN_le _ _
theorem cmd_le (f : ByteArray) (no : Int) (s : ByteArray) (wd bh : Bs) : (cmdR f no s wd bh).1 = 0 := by
  unfold cmdR
  repeat' split
  all_goals rfl
theorem step_le (x : Ln) (rest : List Ln) : (stepR x rest).1 ≤ rest.length := by
  unfold stepR
  split
  · rw [cmd_le]; exact Nat.zero_le _
  · exact read_le _ _ _ _
theorem read_one (f : ByteArray) (no : Int) (s : ByteArray) (rest : List Ln) : (readR f no s rest).2.1.length ≤ 1 := by
  unfold readR
  repeat' split
  all_goals first | exact Nat.le_refl _ | exact Nat.zero_le _
theorem cmd_one (f : ByteArray) (no : Int) (s : ByteArray) (wd bh : Bs) : (cmdR f no s wd bh).2.1.length ≤ 1 := by
  unfold cmdR
  repeat' split
  all_goals first | exact Nat.le_refl _ | exact Nat.zero_le _
theorem step_one (x : Ln) (rest : List Ln) : (stepR x rest).2.1.length ≤ 1 := by
  unfold stepR
  split
  · exact cmd_one _ _ _ _ _
  · exact read_one _ _ _ _
end Go.Proofs.YtcjmfjccjhdgjaaGreatDoor
namespace Go.Bd
open Go.RowKit
def tCl : TypeId := 121
def tRo : TypeId := 119
def BuiltF {α : Type} (R : Rel α) (t : TypeId) (w : World) (B : Nat) (F : Nat → Prop) (v : Value) (l : List α) : Prop :=
  ∃ kvs : List Value, kvs.length = l.length ∧ w.ownsRow B t 1 v l.length kvs ∧ ∀ (j : Nat) x kv, l[j]? = some x → kvs[j]? = some kv → R w F kv x
section
variable {α : Type} {R : Rel α} {t : TypeId} {w w' : World} {B : Nat} {F G S : Nat → Prop} {v : Value} {l : List α}
theorem BuiltF.nil (R : Rel α) (t : TypeId) (w : World) (B : Nat) (F : Nat → Prop) : BuiltF R t w B F (.slice none 0 0) [] := ⟨[], rfl, World.ownsRow_nil _ _ _ _, fun _ _ _ h => by simp at h⟩
theorem BuiltF.chg (hR : R.Stays) (h : BuiltF R t w B F v l) (hc : Chg w w' S) (hk : ∀ b, F b → G b) (hS : ∀ b, F b → ¬ S b) (hv : ∀ b, v.ownBlock = some b → ¬ S b) : BuiltF R t w' B G v l := by
  obtain ⟨kvs, h1, h2, h3⟩ := h
  exact ⟨kvs, h1, hc.owns h2 hv, fun j x kv e1 e2 => hR.go (h3 j x kv e1 e2) hc hk hS⟩
theorem BuiltF.snoc (hR : R.Stays) {kvs : List Value} (h1 : kvs.length = l.length) (h3 : ∀ (j : Nat) x kv, l[j]? = some x → kvs[j]? = some kv → R w F kv x) {kv v' : Value} {x : α} (hx : R w' G kv x) (hc : Chg w w' S) (hk : ∀ b, F b → G b) (hS : ∀ b, F b → ¬ S b) (ho : w'.ownsRow B t 1 v' (l.length + 1) (kvs ++ [kv])) : BuiltF R t w' B G v' (l ++ [x]) := by
  refine ⟨kvs ++ [kv], by simp [h1], by rw [List.length_append]; exact ho, fun j y ku e1 e2 => ?_⟩
  by_cases hj : j < l.length
  · rw [List.getElem?_append_left hj] at e1
    rw [List.getElem?_append_left (by omega)] at e2
    exact hR.go (h3 j y ku e1 e2) hc hk hS
  · have hjl : j = l.length := by have := (List.getElem?_eq_some_iff.1 e1).1; simp at this; omega
    subst hjl
    rw [List.getElem?_append_right (Nat.le_refl _), Nat.sub_self] at e1
    rw [List.getElem?_append_right (by omega), h1, Nat.sub_self] at e2
    cases e1; cases e2
    exact hx
theorem BuiltF.form (h : BuiltF R t w B F v l) : ∃ A c, v = .slice A l.length c ∧ l.length ≤ c ∧ ∀ k, v.ownBlock = some k → B ≤ k ∧ k < w.heap.size := by
  obtain ⟨kvs, _, h2, _⟩ := h
  rcases h2.2 with ⟨h3, h4⟩ | ⟨g, cap, cur, h3, h4, h5, h6, _⟩
  · exact ⟨none, 0, by rw [h3, h4], by omega, by rw [h3]; intro k hk; cases hk⟩
  · refine ⟨_, _, h3, h6, ?_⟩
    rw [h3]
    intro k hk
    have e : g = k := by simpa [Value.ownBlock] using hk
    exact e ▸ ⟨h4, (Array.getElem?_eq_some_iff.1 h5).1⟩
theorem BuiltF.rowF (hR : R.Stays) (h : BuiltF R t w B F v l) (hk : ∀ b, F b → G b) (hv : ∀ b, v.ownBlock = some b → G b) : RowF R w G v l := by
  obtain ⟨A, c, rfl, hc, _⟩ := h.form
  obtain ⟨kvs, h1, h2, h3⟩ := h
  refine ⟨A, c, kvs, rfl, hc, h1, fun hn => ?_, fun j x kv e1 e2 => hR.go (h3 j x kv e1 e2) (Chg.refl w (fun _ => False)) hk (fun _ _ h => h)⟩
  have hl : 0 < l.length := List.length_pos_iff.2 hn
  obtain ⟨g, cap, e, _⟩ := own_some h2 hl
  injection e with e1 e2 e3
  subst e1 e3
  exact ⟨g, 0, rfl, hv g rfl, fun j kv e => by rw [Nat.zero_add]; exact own_cell h2 e⟩
end
section
variable {w w' : World} {O F O' F' S : Nat → Prop} {rb : Nat} {lv : Value} {pos : Nat} {bv : Value} {bs : List Bl} {dv : Value} {ds : List Dg}
theorem Rdr.toldL (h : Rdr w O F rb lv pos bv bs dv ds) {dv' : Value} {l : List Dg} (hc : Chg w w' (fun k => k = rb ∨ dv.ownBlock = some k)) (hh : Holds w' rb tR #[lv, .int .i64 (pos : Int), bv, dv']) (ho : w'.ownsRow 0 tDg 4 dv' (ds.length + l.length) (rowD ds ++ rowD l))
    (hn : ∀ k, dv'.ownBlock = some k → (dv.ownBlock = some k ∨ w.heap.size ≤ k) ∧ k < w'.heap.size) : Rdr w' (fun k => O k ∨ dv'.ownBlock = some k) F rb lv pos bv bs dv' (ds ++ l) ∧ Turn w w' O F (fun k => O k ∨ dv'.ownBlock = some k) F := by
  obtain ⟨kvs, h1, h2, h3⟩ := h.bl
  have hS : ∀ k, (k = rb ∨ dv.ownBlock = some k) → O k := fun k hk => by
    rcases hk with rfl | hk
    · exact h.oR
    · exact (h.oD k hk).1
  have hF : ∀ k, F k → ¬ (k = rb ∨ dv.ownBlock = some k) := fun k hk hs => h.off k hk (hS k hs)
  refine ⟨⟨hh, ⟨kvs, h1, hc.owns h2 (fun k hk hs => ?_), fun j x kv hx hk => ⟨(h3 j x kv hx hk).1.chg hc (fun _ h => h) hF, RowsF.stays.go (h3 j x kv hx hk).2 hc (fun _ h => h) hF⟩⟩, ?_, .inl h.oR, fun k hk => ⟨.inl (h.oB k hk).1, (h.oB k hk).2⟩, fun k hk => ⟨.inr hk, ?_, ?_⟩, fun k hk hs => ?_, fun k hk => ?_, fun k hk => Nat.lt_of_lt_of_le (h.ltF k hk) hc.size⟩,
    ⟨hc.mono (fun k _ hk => hS k hk), fun k hk => ?_, fun k hk => .inl hk, fun k hk => hk⟩⟩
  · rcases hs with hs | hs
    · exact (h.oB k hk).2 hs
    · exact (h.oD k hs).2.2 hk
  · rw [List.length_append, rowD_append]
    exact ho
  · rcases (hn k hk).1 with h4 | h4
    · exact (h.oD k h4).2.1
    · intro e; have := h.ltO rb h.oR; omega
  · rcases (hn k hk).1 with h4 | h4
    · exact (h.oD k h4).2.2
    · intro e; have := h.ltO k (h.oB k e).1; omega
  · rcases hs with hs | hs
    · exact h.off k hk hs
    · rcases (hn k hs).1 with h4 | h4
      · exact h.off k hk (h.oD k h4).1
      · have := h.ltF k hk; omega
  · rcases hk with hk | hk
    · exact Nat.lt_of_lt_of_le (h.ltO k hk) hc.size
    · exact (hn k hk).2
  · rcases hk with hk | hk
    · exact .inl hk
    · rcases (hn k hk).1 with h4 | h4
      · exact .inl (h.oD k h4).1
      · exact .inr h4
end
theorem rowD_one : ∀ {l : List Dg} {u : Value}, u ∈ rowD l → u.oneCell' = true
  | [], u, h => by cases h
  | d :: l, u, h => by
    rw [rowD, List.mem_append] at h
    rcases h with h | h
    · simp only [dgCells, List.mem_cons, List.not_mem_nil, or_false] at h
      rcases h with rfl | rfl | rfl | rfl <;> rfl
    · exact rowD_one h
theorem le_sum_mem : ∀ {l : List Nat} {x : Nat}, x ∈ l → x ≤ l.sum
  | [], x, h => by cases h
  | y :: l, x, h => by
    rw [List.sum_cons]
    rcases List.mem_cons.1 h with rfl | h
    · omega
    · have := le_sum_mem h; omega
theorem splitB_sum : ∀ (k : Nat) (s : ByteArray), ((Lib.splitB bar 0 k s).map (·.size)).sum ≤ s.size
  | 0, s => by simp [Lib.splitB]
  | k + 1, s => by
    rw [Lib.splitB]
    split
    · simp
    · have h := splitB_sum k (s.extract ((Lib.indexB s bar).toNat + bar.size) s.size)
      rw [List.map_cons, List.sum_cons]
      simp only [ByteArray.size_extract] at h ⊢
      have hb : bar.size = 1 := rfl
      omega
theorem sum_take_le (l : List Nat) (k : Nat) : (l.take k).sum ≤ l.sum := by
  have := congrArg List.sum (List.take_append_drop k l)
  rw [List.sum_append] at this
  omega
theorem sum_tr_le : ∀ l : List ByteArray, ((l.map tr).map (·.size)).sum ≤ (l.map (·.size)).sum
  | [] => Nat.le_refl _
  | x :: l => by
    have h1 := sum_tr_le l
    have h2 := tr_le x
    simp only [List.map_cons, List.sum_cons]
    omega
theorem rowOf_sum (s : ByteArray) : ((rowOf s).map (·.size)).sum ≤ s.size := by
  have h1 := splitB_sum (Lib.countB ⟨(Lib.trimPrefix (trim s.data.toList) [124]).toArray⟩ bar) ⟨(Lib.trimPrefix (trim s.data.toList) [124]).toArray⟩
  have h2 : (⟨(Lib.trimPrefix (trim s.data.toList) [124]).toArray⟩ : ByteArray).size ≤ s.size := by
    rw [size_mk]
    have h3 := trim_le s.data.toList
    rw [← size_list] at h3
    have h4 : (Lib.trimPrefix (trim s.data.toList) [124]).length ≤ (trim s.data.toList).length := by unfold Lib.trimPrefix; split <;> simp
    omega
  have h3 := sum_tr_le (pieces ⟨(Lib.trimPrefix (trim s.data.toList) [124]).toArray⟩)
  have h4 : (pieces ⟨(Lib.trimPrefix (trim s.data.toList) [124]).toArray⟩) = Lib.splitB bar 0 (Lib.countB ⟨(Lib.trimPrefix (trim s.data.toList) [124]).toArray⟩ bar) ⟨(Lib.trimPrefix (trim s.data.toList) [124]).toArray⟩ := rfl
  rw [← h4] at h1
  unfold rowOf dropEnd
  split
  · rw [List.map_take]
    have := sum_take_le (((pieces ⟨(Lib.trimPrefix (trim s.data.toList) [124]).toArray⟩).map tr).map (·.size)) (((pieces ⟨(Lib.trimPrefix (trim s.data.toList) [124]).toArray⟩).map tr).length - 1)
    omega
  · omega
theorem flat_faults (f : ByteArray → List Dg) (hf : ∀ t, (f t).length ≤ t.size) : ∀ l : List ByteArray, (l.flatMap f).length ≤ (l.map (·.size)).sum
  | [] => Nat.le_refl _
  | x :: l => by
    have h1 := flat_faults f hf l
    have h2 := hf x
    simp only [List.flatMap_cons, List.length_append, List.map_cons, List.sum_cons]
    omega
theorem step_append_none {P : Program} {ops : Array Oper} {o : Oper} {a : Act} {w : World} {K : Act → World → Prop} {Q : Exit → Act → World → Prop} {E : Prop} (hgd : o.guard = none) (s x : Operand) (t : TypeId)
    (ho : o.op = .call { callee := .builtin .append, args := #[s, x], argTypes := #[t, t] })
    (base : Nat) (e : TypeId) (i : TypeInfo) (size : Nat) (ht : P.underlying t = some (.slice e)) (hi : P.info? e = some i)
    (v : Value) (n : Nat) (xs : List Value) (hs : a.eval s = v) (hown : w.ownsRow base e size v n xs) (hx : a.eval x = .slice none 0 0)
    (h : K (a.put o.dst v) w) : if Region.wanted o (yielded ops a.tmps) = true then Oper.wp P o a w K Q else E := by
  have hw : Region.wanted o (yielded ops a.tmps) = true := by simp [Region.wanted, hgd]
  rw [if_pos hw]
  have hrun := run_append_owned_none (P := P) (w := w) base t o.type e i size ht hi v n xs hown
  unfold Oper.wp
  simp [execOp, ho, resolve, invoke, builtin, hs, hx, hrun, Result.andThen]
  exact h
def tabBlk (rv : Value) : Array Value := #[.int .u8 6, .int .i64 0, .bool false, .string ⟨#[]⟩, .string ⟨#[]⟩, .slice none 0 0, rv, .string ⟨#[]⟩, .int .i64 0]
structure TabS (w : World) (B0 : Nat) (Ow Fw : Nat → Prop) (wi : Nat) (dvw : Value) (dsw : List Dg) (nb : Nat) (rv : Value) (rows : List (List (List Sp))) : Prop where
  rd : Rdr w Ow Fw wi (.slice none 0 0) 0 (.slice none 0 0) [] dvw dsw
  blk : Holds w nb tBl (tabBlk rv)
  rows : BuiltF CellsF tRo w B0 Fw rv rows
  geO : ∀ k, Ow k → B0 ≤ k
  geF : ∀ k, Fw k → B0 ≤ k
  geN : B0 ≤ nb
  nbO : ¬ Ow nb
  nbF : ¬ Fw nb
  rvO : ∀ k, rv.ownBlock = some k → ¬ Ow k ∧ ¬ Fw k ∧ k ≠ nb
structure CelS (w : World) (B0 : Nat) (Ow Fw : Nat → Prop) (nb : Nat) (rv : Value) (gb : Nat) (cv : Value) (xs : List (List Sp)) : Prop where
  box : Holds w gb tRo #[cv]
  cells : BuiltF Forest tCl w B0 Fw cv xs
  geG : B0 ≤ gb
  gbO : ¬ Ow gb ∧ ¬ Fw gb ∧ gb ≠ nb ∧ rv.ownBlock ≠ some gb
  cvO : ∀ k, cv.ownBlock = some k → ¬ Ow k ∧ ¬ Fw k ∧ k ≠ nb ∧ rv.ownBlock ≠ some k ∧ k ≠ gb
section
variable {w w' : World} {B0 : Nat} {Ow Fw O' F' S : Nat → Prop} {wi : Nat} {dvw dvw' : Value} {dsw dsw' : List Dg} {nb gb : Nat} {rv cv : Value} {rows : List (List (List Sp))} {xs : List (List Sp)}
theorem TabS.chg (h : TabS w B0 Ow Fw wi dvw dsw nb rv rows) (hc : Chg w w' S) (hO : ∀ k, Ow k → ¬ S k) (hF : ∀ k, Fw k → ¬ S k) (hN : ¬ S nb) (hR : ∀ k, rv.ownBlock = some k → ¬ S k) : TabS w' B0 Ow Fw wi dvw dsw nb rv rows :=
  ⟨h.rd.chg hc hO hF, hc.holds hN h.blk, h.rows.chg CellsF.stays hc (fun _ h => h) hF hR, h.geO, h.geF, h.geN, h.nbO, h.nbF, h.rvO⟩
theorem TabS.below (h : TabS w B0 Ow Fw wi dvw dsw nb rv rows) (hb : Below w.heap.size w w') : TabS w' B0 Ow Fw wi dvw dsw nb rv rows := h.chg (Chg.below hb (fun _ => False)) (fun _ _ h => h) (fun _ _ h => h) (fun h => h) (fun _ _ h => h)
theorem TabS.turn (h : TabS w B0 Ow Fw wi dvw dsw nb rv rows) (hr : Rdr w' O' F' wi (.slice none 0 0) 0 (.slice none 0 0) [] dvw' dsw') (ht : Turn w w' Ow Fw O' F') : TabS w' B0 O' F' wi dvw' dsw' nb rv rows := by
  have hn := h.blk.lt
  have hB : B0 ≤ w.heap.size := by have := h.geN; omega
  have hrv := h.rows.form
  obtain ⟨_, _, _, _, hrk⟩ := hrv
  exact ⟨hr, ht.chg.holds h.nbO h.blk, h.rows.chg CellsF.stays ht.chg ht.moF h.rd.off (fun k hk => (h.rvO k hk).1), fun k hk => (ht.inO k hk).elim (h.geO k) (fun e => by omega), fun k hk => (ht.inF k hk).elim (h.geF k) (fun e => by omega), h.geN,
    ht.offO hn h.nbO, ht.offF hn h.nbF, fun k hk => ⟨ht.offO (hrk k hk).2 (h.rvO k hk).1, ht.offF (hrk k hk).2 (h.rvO k hk).2.1, (h.rvO k hk).2.2⟩⟩
theorem CelS.chg (h : CelS w B0 Ow Fw nb rv gb cv xs) (hc : Chg w w' S) (hF : ∀ k, Fw k → ¬ S k) (hN : ¬ S gb) (hR : ∀ k, cv.ownBlock = some k → ¬ S k) : CelS w' B0 Ow Fw nb rv gb cv xs :=
  ⟨hc.holds hN h.box, h.cells.chg Forest.stays hc (fun _ h => h) hF hR, h.geG, h.gbO, h.cvO⟩
theorem CelS.below (h : CelS w B0 Ow Fw nb rv gb cv xs) (hb : Below w.heap.size w w') : CelS w' B0 Ow Fw nb rv gb cv xs := h.chg (Chg.below hb (fun _ => False)) (fun _ _ h => h) (fun h => h) (fun _ _ h => h)
theorem CelS.turn (h : CelS w B0 Ow Fw nb rv gb cv xs) (hoff : ∀ k, Fw k → ¬ Ow k) (ht : Turn w w' Ow Fw O' F') : CelS w' B0 O' F' nb rv gb cv xs := by
  have hg := h.box.lt
  obtain ⟨_, _, _, _, hck⟩ := h.cells.form
  exact ⟨ht.chg.holds h.gbO.1 h.box, h.cells.chg Forest.stays ht.chg ht.moF hoff (fun k hk => (h.cvO k hk).1), h.geG, ⟨ht.offO hg h.gbO.1, ht.offF hg h.gbO.2.1, h.gbO.2.2⟩,
    fun k hk => ⟨ht.offO (hck k hk).2 (h.cvO k hk).1, ht.offF (hck k hk).2 (h.cvO k hk).2.1, (h.cvO k hk).2.2⟩⟩
theorem TabS.start (W : World) : TabS ((W.alloc (.cells #[.slice none 0 0, .int .i64 0, .slice none 0 0, .slice none 0 0] tR)).alloc (.cells (tabBlk (.slice none 0 0)) tBl)) W.heap.size (fun k => k = W.heap.size) (fun _ => False) W.heap.size (.slice none 0 0) [] (W.heap.size + 1) (.slice none 0 0) [] := by
  have h1 := (Holds.new W tR #[.slice none 0 0, .int .i64 0, .slice none 0 0, .slice none 0 0]).alloc (.cells (tabBlk (.slice none 0 0)) tBl)
  have h2 := Holds.new (W.alloc (.cells #[.slice none 0 0, .int .i64 0, .slice none 0 0, .slice none 0 0] tR)) tBl (tabBlk (.slice none 0 0))
  rw [World.size_alloc] at h2
  exact ⟨⟨h1, ⟨[], rfl, World.ownsRow_nil _ _ _ _, (fun _ _ _ h => by simp at h)⟩, World.ownsRow_nil _ _ _ _, rfl, (fun k hk => by cases hk), (fun k hk => by cases hk), (fun _ h => h.elim), (fun k hk => by have := h1.lt; omega), (fun _ h => h.elim)⟩,
    h2, BuiltF.nil _ _ _ _ _, (fun k hk => by omega), (fun _ h => h.elim), by omega, by omega, (fun h => h), (fun k hk => by cases hk)⟩
theorem TabS.told (h : TabS w B0 Ow Fw wi dvw dsw nb rv rows) : ∃ F2, RowsF w F2 rv rows ∧ (∀ k, F2 k → Fw k ∨ rv.ownBlock = some k) ∧ ∀ k, F2 k → B0 ≤ k ∧ k < w.heap.size := by
  obtain ⟨_, _, _, _, hrk⟩ := h.rows.form
  exact ⟨fun k => Fw k ∨ rv.ownBlock = some k, h.rows.rowF CellsF.stays (fun k hk => .inl hk) (fun k hk => .inr hk), fun k hk => hk, fun k hk => hk.elim (fun e => ⟨h.geF k e, h.rd.ltF k e⟩) (hrk k)⟩
theorem CelS.start (h : TabS w B0 Ow Fw wi dvw dsw nb rv rows) : CelS (w.alloc (.cells #[.slice none 0 0] tRo)) B0 Ow Fw nb rv w.heap.size (.slice none 0 0) [] := by
  have hn := h.blk.lt
  obtain ⟨_, _, _, _, hrk⟩ := h.rows.form
  exact ⟨Holds.new _ _ _, BuiltF.nil _ _ _ _ _, by have := h.geN; omega, ⟨fun e => by have := h.rd.ltO _ e; omega, fun e => by have := h.rd.ltF _ e; omega, by omega, fun e => by have := (hrk _ e).2; omega⟩, fun k hk => by cases hk⟩
theorem CelS.add {w1 w2 : World} {sv v' : Value} {x : List Sp} {g c : Nat} (hT : TabS w1 B0 Ow Fw wi dvw dsw nb rv rows) (h : CelS w1 B0 Ow Fw nb rv gb cv xs) (hf : Forest w1 Fw sv x) (hv : v' = .slice (some ⟨g, 0, none⟩) (xs.length + 1) c)
    (hc2 : Chg w1 w2 (fun b => cv.ownBlock = some b)) {kvs : List Value} (hk1 : kvs.length = xs.length) (hk3 : ∀ (j : Nat) x kv, xs[j]? = some x → kvs[j]? = some kv → Forest w1 Fw kv x) (ho : w2.ownsRow B0 tCl 1 v' (xs.length + 1) (kvs ++ [sv])) (hg : cv.ownBlock = some g ∨ w1.heap.size ≤ g) (hg2 : g < w2.heap.size) :
    CelS (w2.setCell ⟨gb, 0, none⟩ v') B0 Ow Fw nb rv gb v' (xs ++ [x]) ∧ TabS (w2.setCell ⟨gb, 0, none⟩ v') B0 Ow Fw wi dvw dsw nb rv rows ∧ Chg w1 (w2.setCell ⟨gb, 0, none⟩ v') (fun b => b = gb ∨ cv.ownBlock = some b) := by
  have hgb := h.box.lt
  have hnb := hT.blk.lt
  obtain ⟨_, _, _, _, hrk⟩ := hT.rows.form
  have hc3 : Chg w2 (w2.setCell ⟨gb, 0, none⟩ v') (fun k => k = gb) := Chg.set w2 ⟨gb, 0, none⟩ v'
  have hF1 : ∀ k, Fw k → ¬ cv.ownBlock = some k := fun k hk e => (h.cvO k e).2.1 hk
  have hF2 : ∀ k, Fw k → ¬ k = gb := fun k hk e => h.gbO.2.1 (e ▸ hk)
  have hgne : g ≠ gb := by
    rcases hg with e | e
    · exact (h.cvO g e).2.2.2.2
    · omega
  have hgall : ¬ Ow g ∧ ¬ Fw g ∧ g ≠ nb ∧ rv.ownBlock ≠ some g := by
    rcases hg with e | e
    · exact ⟨(h.cvO g e).1, (h.cvO g e).2.1, (h.cvO g e).2.2.1, (h.cvO g e).2.2.2.1⟩
    · exact ⟨fun e2 => by have := hT.rd.ltO _ e2; omega, fun e2 => by have := hT.rd.ltF _ e2; omega, by omega, fun e2 => by have := (hrk _ e2).2; omega⟩
  have hall : Chg w1 (w2.setCell ⟨gb, 0, none⟩ v') (fun b => b = gb ∨ cv.ownBlock = some b) := (hc2.mono (T := fun b => b = gb ∨ cv.ownBlock = some b) (fun k _ h => .inr h)).trans hc3 (fun k _ h => .inl h)
  have hbx := (hc2.holds (fun e => (h.cvO gb e).2.2.2.2 rfl) h.box).set 0 v'
  refine ⟨⟨by simpa using hbx, ?_, h.geG, h.gbO, fun k hk => ?_⟩, hT.chg hall (fun k hk e => ?_) (fun k hk e => e.elim (hF2 k hk) (hF1 k hk)) (fun e => e.elim (fun e => h.gbO.2.2.1 e.symm) (fun e => (h.cvO nb e).2.2.1 rfl)) (fun k hk e => ?_), hall⟩
  · refine BuiltF.snoc Forest.stays hk1 hk3 (kv := sv) (hf.chg hall (fun _ h => h) (fun k hk e => e.elim (hF2 k hk) (hF1 k hk))) hall (fun _ h => h) (fun k hk e => e.elim (hF2 k hk) (hF1 k hk)) ?_
    refine hc3.owns ho (fun k hk e => ?_)
    rw [hv] at hk
    have e2 : g = k := by simpa [Value.ownBlock] using hk
    exact hgne (e2.trans e)
  · rw [hv] at hk
    have e2 : g = k := by simpa [Value.ownBlock] using hk
    exact e2 ▸ ⟨hgall.1, hgall.2.1, hgall.2.2.1, hgall.2.2.2, hgne⟩
  · rcases e with e | e
    · exact h.gbO.1 (e ▸ hk)
    · exact (h.cvO k e).1 hk
  · rcases e with e | e
    · exact h.gbO.2.2.2 (e ▸ hk)
    · exact (h.cvO k e).2.2.2.1 hk
theorem TabS.row {w1 w2 : World} {v' : Value} {g c : Nat} (hT : TabS w1 B0 Ow Fw wi dvw dsw nb rv rows) (h : CelS w1 B0 Ow Fw nb rv gb cv xs) (hv : v' = .slice (some ⟨g, 0, none⟩) (rows.length + 1) c)
    (hc2 : Chg w1 w2 (fun b => rv.ownBlock = some b)) {kvs : List Value} (hk1 : kvs.length = rows.length) (hk3 : ∀ (j : Nat) x kv, rows[j]? = some x → kvs[j]? = some kv → CellsF w1 Fw kv x) (ho : w2.ownsRow B0 tRo 1 v' (rows.length + 1) (kvs ++ [cv])) (hg : rv.ownBlock = some g ∨ w1.heap.size ≤ g) (hg2 : g < w2.heap.size) :
    ∃ F2, TabS (w2.setCell ⟨nb, 6, none⟩ v') B0 Ow F2 wi dvw dsw nb v' (rows ++ [xs]) ∧ Chg w1 (w2.setCell ⟨nb, 6, none⟩ v') (fun b => b = nb ∨ rv.ownBlock = some b) ∧ (∀ k, Fw k → F2 k) ∧ (∀ k, F2 k → Fw k ∨ cv.ownBlock = some k) := by
  have hnb := hT.blk.lt
  have hB : B0 ≤ w1.heap.size := by have := hT.geN; omega
  obtain ⟨_, _, _, _, hck⟩ := h.cells.form
  have hc3 : Chg w2 (w2.setCell ⟨nb, 6, none⟩ v') (fun k => k = nb) := Chg.set w2 ⟨nb, 6, none⟩ v'
  have hall : Chg w1 (w2.setCell ⟨nb, 6, none⟩ v') (fun b => b = nb ∨ rv.ownBlock = some b) := (hc2.mono (T := fun b => b = nb ∨ rv.ownBlock = some b) (fun k _ h => .inr h)).trans hc3 (fun k _ h => .inl h)
  have hgne : g ≠ nb := by
    rcases hg with e | e
    · exact (hT.rvO g e).2.2
    · omega
  have hO : ∀ k, Ow k → ¬ (k = nb ∨ rv.ownBlock = some k) := fun k hk e => e.elim (fun e => hT.nbO (e ▸ hk)) (fun e => (hT.rvO k e).1 hk)
  have hF2 : ∀ k, (Fw k ∨ cv.ownBlock = some k) → ¬ (k = nb ∨ rv.ownBlock = some k) := fun k hk e => by
    rcases hk with hk | hk
    · exact e.elim (fun e => hT.nbF (e ▸ hk)) (fun e => (hT.rvO k e).2.1 hk)
    · exact e.elim (h.cvO k hk).2.2.1 (h.cvO k hk).2.2.2.1
  have hrd := (hT.rd.more (F' := fun k => Fw k ∨ cv.ownBlock = some k) (fun k hk => .inl hk) (fun k hk => hk.elim (hT.rd.off k) (fun e => (h.cvO k e).1)) (fun k hk => hk.elim (hT.rd.ltF k) (fun e => (hck k e).2))).chg hall hO hF2
  have hrow : CellsF w1 (fun k => Fw k ∨ cv.ownBlock = some k) cv xs := h.cells.rowF Forest.stays (fun k hk => .inl hk) (fun k hk => .inr hk)
  have hbx := (hc2.holds (fun e => (hT.rvO nb e).2.2 rfl) hT.blk).set 6 v'
  refine ⟨fun k => Fw k ∨ cv.ownBlock = some k, ⟨hrd, by simpa [tabBlk] using hbx, ?_, hT.geO, fun k hk => hk.elim (hT.geF k) (fun e => (hck k e).1), hT.geN, hT.nbO, fun e => e.elim hT.nbF (fun e => (h.cvO nb e).2.2.1 rfl), fun k hk => ?_⟩, hall, fun k hk => .inl hk, fun k hk => hk⟩
  · refine BuiltF.snoc CellsF.stays hk1 hk3 (kv := cv) (CellsF.stays.go hrow hall (fun _ h => h) hF2) hall (fun k hk => .inl hk) (fun k hk => hF2 k (.inl hk)) ?_
    refine hc3.owns ho (fun k hk e => ?_)
    rw [hv] at hk
    have e2 : g = k := by simpa [Value.ownBlock] using hk
    exact hgne (e2.trans e)
  · rw [hv] at hk
    have e2 : g = k := by simpa [Value.ownBlock] using hk
    subst e2
    rcases hg with e | e
    · exact ⟨(hT.rvO g e).1, fun e3 => e3.elim (hT.rvO g e).2.1 (fun e3 => (h.cvO g e3).2.2.2.1 e), hgne⟩
    · exact ⟨fun e2 => by have := hT.rd.ltO _ e2; omega, fun e3 => e3.elim (fun e3 => by have := hT.rd.ltF _ e3; omega) (fun e3 => by have := (hck g e3).2; omega), hgne⟩
end
end Go.Bd
namespace Go.Proofs.YtcjmfjccjhdgjaaGreatDoor
open Go.RowKit Go.Bd
theorem rowF_le (x : Ln) : (rowF x).length ≤ x.text.size + 1 := by
  unfold rowF
  split
  · simp
  · split
    · simp
    · have h1 := flat_faults (fun t => (faultsOf t.data.toList).map (dgOf x.file x.no t)) (fun t => by have := faults_le t.data.toList; rw [← size_list] at this; simpa using this) (rowOf (tr x.text))
      have h2 := rowOf_sum (tr x.text)
      have h3 := tr_le x.text
      omega
theorem rowFs_le : ∀ l : List Ln, (l.flatMap rowF).length ≤ wtX l
  | [] => Nat.le_refl _
  | x :: l => by
    have h1 := rowFs_le l
    have h2 := rowF_le x
    simp only [List.flatMap_cons, List.length_append, wtX]
    omega
theorem rowT_le (x : Ln) : (rowT x).length ≤ 1 := by unfold rowT; split <;> simp
theorem rowTs_le : ∀ l : List Ln, (l.flatMap rowT).length ≤ l.length
  | [] => Nat.le_refl _
  | x :: l => by
    have h1 := rowTs_le l
    have h2 := rowT_le x
    simp only [List.flatMap_cons, List.length_append, List.length_cons]
    omega
end Go.Proofs.YtcjmfjccjhdgjaaGreatDoor
