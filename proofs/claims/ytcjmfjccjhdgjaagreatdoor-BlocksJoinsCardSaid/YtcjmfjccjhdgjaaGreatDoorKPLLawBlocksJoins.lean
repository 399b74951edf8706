/-
  The law BlocksJoins: for every input it answers true, and the input reads as it did: the row, and its card. Its conditions: those of the given row alone.
-/
import Derived.Laws.AppendOwnNone
import Derived.Deep.AppendLies
import Derived.IntWalk
import Derived.Lib.Hide
import Derived.Deep.LoopGhost
import Derived.Below
import Derived.WalkKit
import Derived.Test.YtcjmfjccjhdgjaaGreatDoorRows
import Derived.Test.YtcjmfjccjhdgjaaGreatDoorChecked
import Derived.Deep.Slices
import Derived.ChangeArms
import Derived.WideShapes
import Derived.SizedLaws
import Derived.Test.YtcjmfjccjhdgjaaGreatDoorKP6
set_option linter.unusedSimpArgs false
set_option linter.unusedVariables false
namespace Go.Bd
open Go.RowKit
def eTx (x : Int) : ByteArray := if x % 4 = 0 then ⟨#[]⟩ else if x % 4 = 1 then ⟨#[32]⟩ else if x % 4 = 2 then ⟨#[9]⟩ else ⟨#[32, 9, 32]⟩
end Go.Bd
namespace Go.Proofs.YtcjmfjccjhdgjaaGreatDoor
open Go.RowKit Go.Bd
theorem tr_data (s : ByteArray) : (tr s).data.toList = trim s.data.toList := by simp [tr]
def ex1 : Ln := ⟨⟨#[102]⟩, 1, ⟨#[61, 32, 120]⟩⟩
end Go.Proofs.YtcjmfjccjhdgjaaGreatDoor
namespace Go.Bd
open Go.RowKit
def fenceB : ByteArray := ⟨#[45, 45, 45, 45]⟩
def NoF (s : ByteArray) : Prop := ∀ k, k + 4 ≤ s.size → s.extract k (k + 4) ≠ fenceB
theorem trim_mid (l : Bs) : ∃ a b, l = a ++ trim l ++ b := by
  refine ⟨l.takeWhile blank, ((l.dropWhile blank).reverse.takeWhile blank).reverse, ?_⟩
  unfold trim dropR dropL
  have h1 := List.takeWhile_append_dropWhile (p := blank) (l := l)
  have h2 := List.takeWhile_append_dropWhile (p := blank) (l := (l.dropWhile blank).reverse)
  have h3 := congrArg List.reverse h2
  rw [List.reverse_append, List.reverse_reverse] at h3
  rw [List.append_assoc, h3, h1]
theorem NoF.trim {s : ByteArray} (h : NoF s) : Bd.trim s.data.toList ≠ fenceL := fun e => by
  obtain ⟨a, b, hab⟩ := trim_mid s.data.toList
  rw [e] at hab
  have hl : s.size = a.length + 4 + b.length := by rw [size_list, hab]; simp [fenceL]; omega
  refine h a.length (by omega) ?_
  have : (s.extract a.length (a.length + 4)).data.toList = fenceB.data.toList := by
    rw [extract_list, hab, List.append_assoc, List.drop_left]
    simp [fenceL, fenceB]
  cases hx : s.extract a.length (a.length + 4) with
  | mk d => rw [hx] at this; exact congrArg ByteArray.mk (Array.toList_inj.1 this)
theorem untilN_cons (st : Bs → Bool) (x : Ln) (l : List Ln) : untilN st (x :: l) = if st (Bd.trim x.text.data.toList) = true then 0 else untilN st l + 1 := rfl
theorem untilN_none {st : Bs → Bool} : ∀ {l : List ByteArray} (n : Nat) (t : List Ln), (∀ s ∈ l, st (Bd.trim s.data.toList) = false) → untilN st (lnsFrom n l ++ t) = l.length + untilN st t
  | [], n, t, _ => by simp [lnsFrom]
  | x :: l, n, t, h => by
    have ih := untilN_none (l := l) (n + 1) t (fun s hs => h s (List.mem_cons_of_mem _ hs))
    have hx := h x (List.mem_cons_self ..)
    rw [lnsFrom, List.cons_append, untilN_cons]
    simp only
    rw [if_neg (by rw [hx]; simp), ih, List.length_cons]
    omega
def wantB (l : List ByteArray) : ByteArray := ⟨(Lib.join (l.map (·.data.toList)) [10]).toArray⟩
end Go.Bd
namespace Go.Proofs.YtcjmfjccjhdgjaaGreatDoor
open Go.RowKit Go.Bd
end Go.Proofs.YtcjmfjccjhdgjaaGreatDoor
namespace Go.Bd
open Go.RowKit
theorem untilN_lt {st : Bs → Bool} : ∀ {l : List Ln} (t : List Ln), untilN st l < l.length → untilN st (l ++ t) = untilN st l
  | [], t, h => by simp at h
  | x :: l, t, h => by
    rw [untilN_cons] at h
    rw [List.cons_append, untilN_cons, untilN_cons]
    by_cases hx : st (Bd.trim x.text.data.toList) = true
    · rw [if_pos hx, if_pos hx]
    · rw [if_neg hx] at h
      rw [if_neg hx, if_neg hx, untilN_lt t (by rw [List.length_cons] at h; omega)]
theorem untilN_stop {st : Bs → Bool} {e : Ln} (he : st (Bd.trim e.text.data.toList) = true) : ∀ (l t : List Ln), untilN st (l ++ e :: t) = untilN st l
  | [], t => by rw [List.nil_append, untilN_cons, if_pos he]; rfl
  | x :: l, t => by rw [List.cons_append, untilN_cons, untilN_cons, untilN_stop he l t]
theorem endN_lt {k n m : Nat} (h : k < n) (hm : n ≤ m) : endN k m = endN k n := by
  unfold endN
  rw [if_pos h, if_pos (Nat.lt_of_lt_of_le h hm)]
end Go.Bd
namespace Go.Proofs.YtcjmfjccjhdgjaaGreatDoor
open Go.RowKit Go.Bd
theorem code_joins (f : ByteArray) (no : Int) (s : ByteArray) (rest t : List Ln) (hd : ∀ d ∈ (codeR f no s rest).2.2, d.fault ≠ 4) : codeR f no s (rest ++ t) = codeR f no s rest := by
  have hk : codeN rest 0 < rest.length := by
    by_cases hk : codeN rest 0 < rest.length
    · exact hk
    · exact absurd rfl (hd ⟨f, no, 4, s⟩ (by simp only [codeR]; rw [if_neg hk]; exact List.mem_singleton.2 rfl))
  have e1 : codeN (rest ++ t) 0 = codeN rest 0 := by
    unfold codeN at hk ⊢
    rw [List.drop_zero] at hk
    rw [List.drop_zero, List.drop_zero]
    exact untilN_lt t hk
  have e2 : codeT (rest ++ t) 0 = codeT rest 0 := by
    unfold codeT
    rw [e1, List.drop_zero, List.drop_zero, List.take_append_of_le_length (Nat.le_of_lt hk)]
  have hl : rest.length ≤ (rest ++ t).length := by rw [List.length_append]; omega
  unfold codeR
  rw [e1, e2, endN_lt hk hl, if_pos hk, if_pos (Nat.lt_of_lt_of_le hk hl)]
theorem table_joins (f : ByteArray) (no : Int) (s : ByteArray) (rest t : List Ln) (hd : ∀ d ∈ (tableR f no s rest).2.2, d.fault ≠ 4) : tableR f no s (rest ++ t) = tableR f no s rest := by
  have hk : tabN rest < rest.length := by
    by_cases hk : tabN rest < rest.length
    · exact hk
    · refine absurd rfl (hd ⟨f, no, 4, s⟩ ?_)
      simp only [tableR, tabE]
      rw [if_neg hk]
      exact List.mem_append.2 (.inl (List.mem_append.2 (.inl (List.mem_append.2 (.inl (List.mem_singleton.2 rfl))))))
  have e1 : tabN (rest ++ t) = tabN rest := untilN_lt t hk
  have hl : rest.length ≤ (rest ++ t).length := by rw [List.length_append]; omega
  have e2 : tabR (rest ++ t) = tabR rest := by
    unfold tabR
    rw [e1, List.take_append_of_le_length (Nat.le_of_lt hk)]
  have e3 : tabF (rest ++ t) = tabF rest := by
    unfold tabF
    rw [e1, List.take_append_of_le_length (Nat.le_of_lt hk)]
  have e4 : tabE f no s (rest ++ t) = tabE f no s rest := by
    unfold tabE
    rw [e1, e2, if_pos hk, if_pos (Nat.lt_of_lt_of_le hk hl)]
  unfold tableR
  rw [e1, e2, e3, e4, endN_lt hk hl]
theorem para_joins (f : ByteArray) (no : Int) (s : ByteArray) (rest t : List Ln) {e : Ln} (he : trim e.text.data.toList = []) : paraR f no s (rest ++ e :: t) = paraR f no s rest := by
  have hs : (fun t => !plainL t) (Bd.trim e.text.data.toList) = true := by rw [he]; decide
  have e1 := untilN_stop (st := fun t => !plainL t) hs rest t
  have e2 : paraB (rest ++ e :: t) 0 s = paraB rest 0 s := by
    unfold paraB paraT
    rw [List.drop_zero, List.drop_zero, e1, List.take_append_of_le_length (untilN_le _ _)]
  unfold paraR
  rw [e1, e2]
theorem read_joins (f : ByteArray) (no : Int) (s : ByteArray) (rest t : List Ln) {e : Ln} (he : trim e.text.data.toList = []) (hd : ∀ d ∈ (readR f no s rest).2.2, d.fault ≠ 4) : readR f no s (rest ++ e :: t) = readR f no s rest := by
  unfold readR at hd ⊢
  by_cases h1 : 0 < (leadB s.data.toList 61).1
  · rw [if_pos h1, if_pos h1]
  rw [if_neg h1] at hd
  rw [if_neg h1, if_neg h1]
  by_cases h2 : 0 < (itemB s.data.toList).1
  · rw [if_pos h2, if_pos h2]
  rw [if_neg h2] at hd
  rw [if_neg h2, if_neg h2]
  by_cases h3 : s.data.toList = []
  · rw [if_pos h3, if_pos h3]
  rw [if_neg h3] at hd
  rw [if_neg h3, if_neg h3]
  by_cases h4 : s.data.toList = fenceL
  · rw [if_pos h4] at hd
    rw [if_pos h4, if_pos h4]
    exact code_joins f no s rest _ hd
  rw [if_neg h4] at hd
  rw [if_neg h4, if_neg h4]
  by_cases h5 : Lib.hasPrefix s.data.toList barsL = true
  · rw [if_pos h5] at hd
    rw [if_pos h5, if_pos h5]
    exact table_joins f no s rest _ hd
  · rw [if_neg h5, if_neg h5]
    exact para_joins f no s rest t he
theorem step_joins (x : Ln) (rest t : List Ln) {e : Ln} (he : trim e.text.data.toList = []) (hd : ∀ d ∈ (stepR x rest).2.2, d.fault ≠ 4) : stepR x (rest ++ e :: t) = stepR x rest := by
  unfold stepR at hd ⊢
  cases h : commandB (trim x.text.data.toList) with
  | some p => rfl
  | none =>
    rw [h] at hd
    exact read_joins _ _ _ rest t he hd
theorem joins_told : ∀ (m : Nat) (a t : List Ln) {e : Ln}, trim e.text.data.toList = [] → a.length ≤ m → (∀ d ∈ diagsOf a, d.fault ≠ 4) → blocksOf (a ++ e :: t) = blocksOf a ++ blocksOf (e :: t) ∧ diagsOf (a ++ e :: t) = diagsOf a ++ diagsOf (e :: t)
  | _, [], t, e, _, _, _ => ⟨rfl, rfl⟩
  | 0, x :: a, t, e, _, h, _ => by simp at h
  | m + 1, x :: a, t, e, he, h, hd => by
    rw [diagsOf_cons] at hd
    have hs := step_joins x a t he (fun d hm => hd d (List.mem_append.2 (.inl hm)))
    have hl := step_le x a
    obtain ⟨h1, h2⟩ := joins_told m (a.drop (stepR x a).1) t he (by rw [List.length_drop]; simp at h; omega) (fun d hm => hd d (List.mem_append.2 (.inr hm)))
    rw [List.cons_append, blocksOf_cons, diagsOf_cons, hs, List.drop_append_of_le_length hl, h1, h2, blocksOf_cons x a, diagsOf_cons x a, List.append_assoc, List.append_assoc]
    exact ⟨rfl, rfl⟩
end Go.Proofs.YtcjmfjccjhdgjaaGreatDoor
namespace Go.Proofs.YtcjmfjccjhdgjaaGreatDoor
open Go.RowKit Go.Bd
def SamesOk (N : Nat) : Prop := ∀ (l m : List Sp), manyL l ≤ N → manyL l ≤ 1000000000 → ∀ (v u : Value) (w : World) (B : Nat), Forest w (· < B) v l → Forest w (· < B) u m → B ≤ w.heap.size →
    Calls Tryz.prog 43 #[v, u] w fun e w' => e = .returned (.bool (sameL l m)) ∧ Below B w w'
set_option maxRecDepth 100000 in
set_option maxHeartbeats 2000000 in
theorem sames1_any {N : Nat} (ih : SamesOk N) (x y : Sp) (hN : manyL x.kids ≤ N) (hm : manyL x.kids ≤ 1000000000) (v u : Value) (w : World) (B : Nat) (hF : Forest w (· < B) v x.kids) (hG : Forest w (· < B) u y.kids) (hB : B ≤ w.heap.size) :
    Calls Tryz.prog 70 #[.agg #[.int .u8 (x.kind : Int), .string ⟨x.text.toArray⟩, .string ⟨x.sub.toArray⟩, .string ⟨x.see.toArray⟩, v], .agg #[.int .u8 (y.kind : Int), .string ⟨y.text.toArray⟩, .string ⟨y.sub.toArray⟩, .string ⟨y.see.toArray⟩, u]] w fun e w' => e = .returned (.bool (same1 x y)) ∧ Below B w w' := by
  obtain ⟨A, c, rfl, hc⟩ := hF.len
  obtain ⟨A', c', rfl, hc'⟩ := hG.len
  have HF := Lib.hid hF
  have HG := Lib.hid hG
  have HS : Hid (same1 x y = (x.kind == y.kind && (x.text == y.text && (x.sub == y.sub && (x.see == y.see && sameL x.kids y.kids))))) := by
    unfold Hid
    obtain ⟨k, t, u, v, ks⟩ := x
    obtain ⟨k', t', u', v', ks'⟩ := y
    simp only [same1]
  have HI := Lib.hid ih
  clear hF hG ih
  go_enter Tryz.func70, Tryz.ntmps70
  go_wp2_with fail
  · have hkq : x.kind = y.kind := by omega
    have e1 : same1 x y = sameL x.kids y.kids := by
      rw [HS.out, hkq, ‹x.text = y.text›, ‹x.sub = y.sub›, ‹x.see = y.see›]
      simp only [beq_self_eq_true, Bool.true_and]
    have E1 := Lib.hid e1
    clear e1 hkq
    refine (HI.out x.kids y.kids hN hm _ _ _ B (HF.out.under (((Below.refl B w).alloc hB _).alloc (by simp; omega) _) (fun _ h => h)) (HG.out.under (((Below.refl B w).alloc hB _).alloc (by simp; omega) _) (fun _ h => h)) (by simp; omega)).mono ?_
    rintro e w2 ⟨rfl, hb2⟩
    have HB := Lib.hid ((((Below.refl B w).alloc hB _).alloc (by simp; omega) _).trans hb2)
    clear hb2
    go_wp2
    go_ret
    exact ⟨by rw [E1.out]; rfl, HB.out⟩
  all_goals
    have e1 : same1 x y = false := by
      rw [HS.out]
      have hk : (x.kind == y.kind) = decide ((x.kind : Int) = (y.kind : Int)) := by
        rw [Bool.eq_iff_iff]; simp only [beq_iff_eq, decide_eq_true_eq]; omega
      rw [hk]
      simp only [*, decide_false, Bool.false_and, Bool.and_false, beq_self_eq_true, Bool.true_and, Bool.and_eq_false_iff, beq_eq_false_iff_ne, ne_eq, not_false_eq_true, true_or, or_true, decide_true]
    have E1 := Lib.hid e1
    clear e1
    go_ret
    exact ⟨by rw [E1.out]; rfl, ((Below.refl B w).alloc hB _).alloc (by simp; omega) _⟩
set_option maxRecDepth 100000 in
set_option maxHeartbeats 2000000 in
theorem sames_step {N : Nat} (ih : ∀ M, M < N → SamesOk M) (l m : List Sp) (hN : manyL l ≤ N) (hm : manyL l ≤ 1000000000) (v u : Value) (w : World) (B : Nat) (hF : Forest w (· < B) v l) (hG : Forest w (· < B) u m) (hB : B ≤ w.heap.size) :
    Calls Tryz.prog 43 #[v, u] w fun e w' => e = .returned (.bool (sameL l m)) ∧ Below B w w' := by
  obtain ⟨A, c, rfl, hc⟩ := hF.len
  obtain ⟨A', c', rfl, hc'⟩ := hG.len
  have hlm := many_len l
  by_cases hln : l.length = m.length
  · have HF := Lib.hid hF
    have HG := Lib.hid hG
    have HI := Lib.hid ih
    rw [← hln] at HG hc' ⊢
    obtain ⟨n, hn⟩ : ∃ n, l.length = n := ⟨_, rfl⟩
    have HN := Lib.hid hn
    have HN' := Lib.hid (hln.symm.trans hn)
    simp only [hn] at hc hc' hlm HF HG ⊢
    clear hF hG ih hln hn
    have HD : Hid (∀ b, sameL l m = b ↔ (if b = true then l = m else l ≠ m)) := fun b => by
      cases b with
      | true => simp [sameL_eq]
      | false =>
        rw [← Bool.not_eq_true, sameL_eq]; simp
    go_enter Tryz.func43, Tryz.ntmps43
    go_wp2
    go_loopg [5] n (fun q i wr => ∃ k : Nat, k + q = n ∧ i = .int .i64 (k : Int) ∧ Hid (l.take k = m.take k ∧ Below B w wr))
    case atStart => exact ⟨0, by omega, rfl, rfl, Below.refl _ _⟩
    case round =>
      obtain ⟨k, hk, rfl, HR⟩ := hrel
      by_cases hlt : k < n
      · obtain ⟨x, hx⟩ : ∃ x, l[k]? = some x := ⟨_, List.getElem?_eq_getElem (by rw [HN.out]; exact hlt)⟩
        obtain ⟨y, hy⟩ : ∃ y, m[k]? = some y := ⟨_, List.getElem?_eq_getElem (by rw [HN'.out]; exact hlt)⟩
        obtain ⟨b1, off, kA, kc, rfl, hb1, hkF, p0, p1, p2, p3, p4⟩ := HF.out.at hx
        obtain ⟨b2, off2, kA2, kc2, rfl, hb2, hkG, q0, q1, q2, q3, q4⟩ := HG.out.at hy
        have hbl := HR.out.2
        have hrb := hbl.size
        replace p0 := (hbl.cell (p := ⟨b1, off + k * 5, none⟩) hb1).trans p0
        replace p1 := (hbl.cell (p := ⟨b1, off + k * 5 + 1, none⟩) hb1).trans p1
        replace p2 := (hbl.cell (p := ⟨b1, off + k * 5 + 2, none⟩) hb1).trans p2
        replace p3 := (hbl.cell (p := ⟨b1, off + k * 5 + 3, none⟩) hb1).trans p3
        replace p4 := (hbl.cell (p := ⟨b1, off + k * 5 + 4, none⟩) hb1).trans p4
        replace q0 := (hbl.cell (p := ⟨b2, off2 + k * 5, none⟩) hb2).trans q0
        replace q1 := (hbl.cell (p := ⟨b2, off2 + k * 5 + 1, none⟩) hb2).trans q1
        replace q2 := (hbl.cell (p := ⟨b2, off2 + k * 5 + 2, none⟩) hb2).trans q2
        replace q3 := (hbl.cell (p := ⟨b2, off2 + k * 5 + 3, none⟩) hb2).trans q3
        replace q4 := (hbl.cell (p := ⟨b2, off2 + k * 5 + 4, none⟩) hb2).trans q4
        have hgt := many_get hx
        have HX := Lib.hid hx
        have HY := Lib.hid hy
        have HKF := Lib.hid (hkF.under hbl (fun _ h => h))
        have HKG := Lib.hid (hkG.under hbl (fun _ h => h))
        have HS1 := Lib.hid (same1_eq x y)
        clear hx hy hkF hkG hbl
        go_wp2
        refine wp_region_held_drew (S := (fun w' => w'.cell? ⟨b1, off + k * 5, none⟩ = some (.int .u8 (x.kind : Int)) ∧ w'.cell? ⟨b1, off + k * 5 + 1, none⟩ = some (.string ⟨x.text.toArray⟩) ∧ w'.cell? ⟨b1, off + k * 5 + 2, none⟩ = some (.string ⟨x.sub.toArray⟩) ∧ w'.cell? ⟨b1, off + k * 5 + 3, none⟩ = some (.string ⟨x.see.toArray⟩) ∧ w'.cell? ⟨b1, off + k * 5 + 4, none⟩ = some (.slice kA x.kids.length kc) ∧ w'.cell? ⟨b2, off2 + k * 5, none⟩ = some (.int .u8 (y.kind : Int)) ∧ w'.cell? ⟨b2, off2 + k * 5 + 1, none⟩ = some (.string ⟨y.text.toArray⟩) ∧ w'.cell? ⟨b2, off2 + k * 5 + 2, none⟩ = some (.string ⟨y.sub.toArray⟩) ∧ w'.cell? ⟨b2, off2 + k * 5 + 3, none⟩ = some (.string ⟨y.see.toArray⟩) ∧ w'.cell? ⟨b2, off2 + k * 5 + 4, none⟩ = some (.slice kA2 y.kids.length kc2))) (by kernel_rfl) ?_ (fun hHeld0 => ?_)
        · (try dsimp only)
          first | exact ⟨p0, p1, p2, p3, p4, q0, q1, q2, q3, q4⟩ | exact ⟨r0, r1, r2, r3, r4, s0, s1, s2, s3, s4⟩
        refine wpAnyH_take (i := 0) (v := ?_) rfl (by kernel_rfl) (by kernel_rfl) (by kernel_rfl) (fun _ _ _ h => h) (Or.inl ⟨by kernel_rfl, ?_⟩) (by assumption) ?_
        rotate_left
        · (intro w hSw; (try dsimp only at hSw); go_simp; (first | done | with_reducible rfl))
        (try simp only [Act.put, List.setIfInBounds_toArray, List.set_cons_zero, List.set_cons_succ])
        refine wpAnyH_take (i := 1) (v := ?_) rfl (by kernel_rfl) (by kernel_rfl) (by kernel_rfl) (fun _ _ _ h => h) (Or.inl ⟨by kernel_rfl, ?_⟩) (by assumption) ?_
        rotate_left
        · (intro w hSw; (try dsimp only at hSw); go_simp; (first | done | with_reducible rfl))
        (try simp only [Act.put, List.setIfInBounds_toArray, List.set_cons_zero, List.set_cons_succ])
        refine wpAnyH_take (i := 2) (v := ?_) rfl (by kernel_rfl) (by kernel_rfl) (by kernel_rfl) (fun _ _ _ h => h) (Or.inl ⟨by kernel_rfl, ?_⟩) (by assumption) ?_
        rotate_left
        · (intro w hSw; (try dsimp only at hSw); go_simp; (first | done | with_reducible rfl))
        (try simp only [Act.put, List.setIfInBounds_toArray, List.set_cons_zero, List.set_cons_succ])
        refine wpAnyH_take (i := 3) (v := ?_) rfl (by kernel_rfl) (by kernel_rfl) (by kernel_rfl) (fun _ _ _ h => h) (Or.inl ⟨by kernel_rfl, ?_⟩) (by assumption) ?_
        rotate_left
        · (intro w hSw; (try dsimp only at hSw); go_simp; (first | done | with_reducible rfl))
        (try simp only [Act.put, List.setIfInBounds_toArray, List.set_cons_zero, List.set_cons_succ])
        refine wpAnyH_take (i := 4) (v := ?_) rfl (by kernel_rfl) (by kernel_rfl) (by kernel_rfl) (fun _ _ _ h => h) (Or.inl ⟨by kernel_rfl, ?_⟩) (by assumption) ?_
        rotate_left
        · (intro w hSw; (try dsimp only at hSw); go_simp; (first | done | with_reducible rfl))
        (try simp only [Act.put, List.setIfInBounds_toArray, List.set_cons_zero, List.set_cons_succ])
        refine wpAnyH_take (i := 5) (v := ?_) rfl (by kernel_rfl) (by kernel_rfl) (by kernel_rfl) (fun _ _ _ h => h) (Or.inl ⟨by kernel_rfl, ?_⟩) (by assumption) ?_
        rotate_left
        · (intro w hSw; (try dsimp only at hSw); go_simp; (first | done | with_reducible rfl))
        (try simp only [Act.put, List.setIfInBounds_toArray, List.set_cons_zero, List.set_cons_succ])
        refine wpAnyH_take (i := 6) (v := ?_) rfl (by kernel_rfl) (by kernel_rfl) (by kernel_rfl) (fun _ _ _ h => h) (Or.inl ⟨by kernel_rfl, ?_⟩) (by assumption) ?_
        rotate_left
        · (intro w hSw; (try dsimp only at hSw); go_simp; (first | done | with_reducible rfl))
        (try simp only [Act.put, List.setIfInBounds_toArray, List.set_cons_zero, List.set_cons_succ])
        refine wpAnyH_take (i := 7) (v := ?_) rfl (by kernel_rfl) (by kernel_rfl) (by kernel_rfl) (fun _ _ _ h => h) (Or.inl ⟨by kernel_rfl, ?_⟩) (by assumption) ?_
        rotate_left
        · (intro w hSw; (try dsimp only at hSw); go_simp; (first | done | with_reducible rfl))
        (try simp only [Act.put, List.setIfInBounds_toArray, List.set_cons_zero, List.set_cons_succ])
        refine wpAnyH_ready (rs := [8]) (by kernel_rfl) (by simp) ?_
        refine AllReadyH.cons rfl (fun K hK => ?_) AllReadyH.nil
        go_simp
        refine (sames1_any (HI.out (manyL x.kids) (by omega)) x y (Nat.le_refl _) (by omega) _ _ wr.drew B (HKF.out.keep (fun _ h => h) (fun _ _ _ h => h)) (HKG.out.keep (fun _ h => h) (fun _ _ _ h => h)) (by first | omega | (show B ≤ wr.heap.size; omega))).mono ?_
        rintro e w2 ⟨rfl, hb2'⟩
        have HB2 := Lib.hid (((Below.refl B wr).drew).trans hb2')
        clear hb2'
        have r0 := (HB2.out.cell (p := ⟨b1, off + k * 5, none⟩) (by omega)).trans p0
        have r1 := (HB2.out.cell (p := ⟨b1, off + k * 5 + 1, none⟩) (by omega)).trans p1
        have r2 := (HB2.out.cell (p := ⟨b1, off + k * 5 + 2, none⟩) (by omega)).trans p2
        have r3 := (HB2.out.cell (p := ⟨b1, off + k * 5 + 3, none⟩) (by omega)).trans p3
        have r4 := (HB2.out.cell (p := ⟨b1, off + k * 5 + 4, none⟩) (by omega)).trans p4
        have s0 := (HB2.out.cell (p := ⟨b2, off2 + k * 5, none⟩) (by omega)).trans q0
        have s1 := (HB2.out.cell (p := ⟨b2, off2 + k * 5 + 1, none⟩) (by omega)).trans q1
        have s2 := (HB2.out.cell (p := ⟨b2, off2 + k * 5 + 2, none⟩) (by omega)).trans q2
        have s3 := (HB2.out.cell (p := ⟨b2, off2 + k * 5 + 3, none⟩) (by omega)).trans q3
        have s4 := (HB2.out.cell (p := ⟨b2, off2 + k * 5 + 4, none⟩) (by omega)).trans q4
        go_wp2_with fail
        refine hK.out _ _ ?_ (fun hHeld1 => ?_)
        · (try dsimp only)
          first | exact ⟨p0, p1, p2, p3, p4, q0, q1, q2, q3, q4⟩ | exact ⟨r0, r1, r2, r3, r4, s0, s1, s2, s3, s4⟩
        clear hK K hHeld0
        (try simp only [Act.put, List.setIfInBounds_toArray, List.set_cons_zero, List.set_cons_succ])
        refine wpAnyH_take (i := 9) (v := ?_) rfl (by kernel_rfl) (by kernel_rfl) (by kernel_rfl) (fun _ _ _ h => h) (Or.inl ⟨by kernel_rfl, ?_⟩) (by assumption) ?_
        rotate_left
        · (intro w hSw; (try dsimp only at hSw); go_simp; (first | done | with_reducible rfl))
        (try simp only [Act.put, List.setIfInBounds_toArray, List.set_cons_zero, List.set_cons_succ])
        refine wpAnyH_done (by kernel_rfl) ?_ _
        cases hs : same1 x y with
        | true =>
          have HE := Lib.hid (HS1.out.1 hs)
          clear hs
          go_wp2
          go_roundg (gk - 1)
          case measure => omega
          case rel => exact ⟨k + 1, by omega, by go_num, by rw [List.take_add_one, List.take_add_one, HX.out, HY.out, HE.out, HR.out.1], HR.out.2.trans HB2.out⟩
        | false =>
          have HE : Hid (x ≠ y) := fun e => by rw [HS1.out.2 e] at hs; cases hs
          clear hs
          go_wp2
          go_ret
          refine ⟨?_, HR.out.2.trans HB2.out⟩
          have e1 : sameL l m = false := (HD.out false).2 (by
            rw [if_neg (by decide)]
            rintro rfl
            have h1 := HX.out
            rw [HY.out] at h1
            injection h1 with h1
            exact HE.out h1.symm)
          rw [e1]; rfl
      · obtain rfl : k = n := by omega
        go_wp2
        go_ret
        have e1 : sameL l m = true := (HD.out true).2 (by
          rw [if_pos rfl]
          have h1 := HR.out.1
          rw [List.take_of_length_le (by rw [HN.out]; exact Nat.le_refl _), List.take_of_length_le (by rw [HN'.out]; exact Nat.le_refl _)] at h1
          exact h1)
        exact ⟨by rw [e1]; rfl, HR.out.2⟩
  · have e1 : sameL l m = false := by
      rw [← Bool.not_eq_true, sameL_eq]
      rintro rfl
      exact hln rfl
    have E1 := Lib.hid e1
    have t1 : ((l.length : Int) != (m.length : Int)) = true := by rw [bne_iff_ne]; omega
    have t2 : (l.length != m.length) = true := by rw [bne_iff_ne]; exact hln
    clear hF hG ih e1
    go_enter Tryz.func43, Tryz.ntmps43
    go_wp2
    go_ret
    exact ⟨by rw [E1.out]; rfl, Below.refl _ _⟩
theorem sames_any (N : Nat) : SamesOk N := by
  induction N using Nat.strongRecOn with
  | _ N ih => exact fun l m hN hm v u w B hF hG hB => sames_step ih l m hN hm v u w B hF hG hB
end Go.Proofs.YtcjmfjccjhdgjaaGreatDoor
namespace Go.Bd
open Go.RowKit
def BlocksAt (w : World) (B : Nat) (v : Value) (bs : List Bl) : Prop :=
  ∃ (A : Option Addr) (c : Nat) (kvs : List (Value × Value)), v = .slice A bs.length c ∧ bs.length ≤ c ∧ kvs.length = bs.length ∧ (bs ≠ [] → ∃ b off, A = some ⟨b, off, none⟩ ∧ b < B ∧ ∀ (j : Nat) x kv, bs[j]? = some x → kvs[j]? = some kv → ∀ (i : Nat) u, (blCells x kv)[i]? = some u → w.cell? ⟨b, off + j * 9 + i, none⟩ = some u) ∧
    ∀ (j : Nat) x kv, bs[j]? = some x → kvs[j]? = some kv → Forest w (· < B) kv.1 x.spans ∧ RowsF w (· < B) kv.2 x.rows
theorem BlocksAt.at {w : World} {B n c : Nat} {A : Option Addr} {bs : List Bl} (h : BlocksAt w B (.slice A n c) bs) {j : Nat} {x : Bl} (hx : bs[j]? = some x) : ∃ b off sA sc rA rc, A = some ⟨b, off, none⟩ ∧ b < B ∧ Forest w (· < B) (.slice sA x.spans.length sc) x.spans ∧ RowsF w (· < B) (.slice rA x.rows.length rc) x.rows ∧
    w.cell? ⟨b, off + j * 9, none⟩ = some (.int .u8 (x.kind : Int)) ∧ w.cell? ⟨b, off + j * 9 + 1, none⟩ = some (.int .i64 (x.level : Int)) ∧ w.cell? ⟨b, off + j * 9 + 2, none⟩ = some (.bool x.ordered) ∧ w.cell? ⟨b, off + j * 9 + 3, none⟩ = some (.string x.label) ∧ w.cell? ⟨b, off + j * 9 + 4, none⟩ = some (.string x.text) ∧
    w.cell? ⟨b, off + j * 9 + 5, none⟩ = some (.slice sA x.spans.length sc) ∧ w.cell? ⟨b, off + j * 9 + 6, none⟩ = some (.slice rA x.rows.length rc) ∧ w.cell? ⟨b, off + j * 9 + 7, none⟩ = some (.string x.file) ∧ w.cell? ⟨b, off + j * 9 + 8, none⟩ = some (.int .i64 x.line) := by
  obtain ⟨A', c', kvs, e, hc, hl, hA, hk⟩ := h
  injection e with e1 e2 e3
  subst e1
  have hj := (List.getElem?_eq_some_iff.1 hx).1
  obtain ⟨b, off, h1, h2, h3⟩ := hA (fun e => by rw [e] at hj; simp at hj)
  obtain ⟨kv, hkv⟩ : ∃ kv, kvs[j]? = some kv := ⟨_, List.getElem?_eq_getElem (by omega)⟩
  obtain ⟨hf, hr⟩ := hk j x kv hx hkv
  obtain ⟨k1, k2⟩ := kv
  obtain ⟨sA, sc, rfl, _⟩ := hf.form
  obtain ⟨rA, rc, rfl, _⟩ := hr.len
  have hc := h3 j x _ hx hkv
  exact ⟨b, off, sA, sc, rA, rc, h1, h2, hf, hr, hc 0 _ rfl, hc 1 _ rfl, hc 2 _ rfl, hc 3 _ rfl, hc 4 _ rfl, hc 5 _ rfl, hc 6 _ rfl, hc 7 _ rfl, hc 8 _ rfl⟩
theorem BlocksAt.form {w : World} {B : Nat} {v : Value} {bs : List Bl} (h : BlocksAt w B v bs) : ∃ A c, v = .slice A bs.length c ∧ bs.length ≤ c := by
  obtain ⟨A, c, _, h1, h2, _⟩ := h
  exact ⟨A, c, h1, h2⟩
def DiagsAt (w : World) (B : Nat) (v : Value) (ds : List Dg) : Prop :=
  ∃ A c, v = .slice A ds.length c ∧ ds.length ≤ c ∧ (ds ≠ [] → ∃ b off, A = some ⟨b, off, none⟩ ∧ b < B ∧ ∀ (j : Nat) x, ds[j]? = some x → ∀ (i : Nat) u, (dgCells x)[i]? = some u → w.cell? ⟨b, off + j * 4 + i, none⟩ = some u)
theorem DiagsAt.at {w : World} {B n c : Nat} {A : Option Addr} {ds : List Dg} (h : DiagsAt w B (.slice A n c) ds) {j : Nat} {x : Dg} (hx : ds[j]? = some x) : ∃ b off, A = some ⟨b, off, none⟩ ∧ b < B ∧
    w.cell? ⟨b, off + j * 4, none⟩ = some (.string x.file) ∧ w.cell? ⟨b, off + j * 4 + 1, none⟩ = some (.int .i64 x.line) ∧ w.cell? ⟨b, off + j * 4 + 2, none⟩ = some (.int .i64 (x.fault : Int)) ∧ w.cell? ⟨b, off + j * 4 + 3, none⟩ = some (.string x.text) := by
  obtain ⟨A', c', e, hc, hA⟩ := h
  injection e with e1 e2 e3
  subst e1
  have hj := (List.getElem?_eq_some_iff.1 hx).1
  obtain ⟨b, off, h1, h2, h3⟩ := hA (fun e => by rw [e] at hj; simp at hj)
  have hc := h3 j x hx
  exact ⟨b, off, h1, h2, hc 0 _ rfl, hc 1 _ rfl, hc 2 _ rfl, hc 3 _ rfl⟩
theorem DiagsAt.form {w : World} {B : Nat} {v : Value} {ds : List Dg} (h : DiagsAt w B v ds) : ∃ A c, v = .slice A ds.length c ∧ ds.length ≤ c := by
  obtain ⟨A, c, h1, h2, _⟩ := h
  exact ⟨A, c, h1, h2⟩
end Go.Bd
namespace Go.Proofs.YtcjmfjccjhdgjaaGreatDoor
open Go.RowKit Go.Bd
theorem spans_alike (l : List Sp) (hm : manyL l ≤ 1000000000) {v u : Value} {w : World} {B : Nat} (h1 : Forest w (· < B) v l) (h2 : Forest w (· < B) u l) (hB : B ≤ w.heap.size) :
    Calls Tryz.prog 43 #[v, u] w fun e w' => e = .returned (.bool true) ∧ Below B w w' := by
  have h := sames_any (manyL l) l l (Nat.le_refl _) hm v u w B h1 h2 hB
  rwa [show sameL l l = true from (sameL_eq l l).2 rfl] at h
theorem cell_alike {l : List Sp} (hm : manyL l ≤ 1000000000) {v u : Value} {w : World} {B : Nat} (h1 : Forest w (· < B) v l) (h2 : Forest w (· < B) u l) (hB : B ≤ w.heap.size) :
    Calls Tryz.prog 116 #[.agg #[v], .agg #[u]] w fun e w' => e = .returned (.bool true) ∧ Below B w w' := by
  have hb := ((Below.refl B w).alloc hB (.cells #[v] 121)).alloc (by simp; omega) (.cells #[u] 121)
  have hk1 := h1.under hb (fun _ h => h)
  have hk2 := h2.under hb (fun _ h => h)
  have hs := hb.size
  have C := spans_alike l hm hk1 hk2 (by omega)
  have HB := Lib.hid hb
  clear h1 h2 hk1 hk2 hb
  go_enter Tryz.func116, Tryz.ntmps116
  go_wp2_with fail
  refine C.mono ?_
  clear C
  rintro e w2 ⟨rfl, hb2⟩
  have HB2 := Lib.hid (HB.out.trans hb2)
  clear hb2
  go_wp2
  go_ret
  exact ⟨rfl, HB2.out⟩
set_option maxRecDepth 100000 in
set_option maxHeartbeats 4000000 in
theorem cells_alike {l : List (List Sp)} (hm : ∀ x ∈ l, manyL x ≤ 1000000000) (hl : l.length ≤ 1000000) {v u : Value} {w : World} {B : Nat} (h1 : CellsF w (· < B) v l) (h2 : CellsF w (· < B) u l) (hB : B ≤ w.heap.size) :
    Calls Tryz.prog 92 #[v, u] w fun e w' => e = .returned (.bool true) ∧ Below B w w' := by
  obtain ⟨A1, c1, rfl, hc1⟩ := h1.len
  obtain ⟨A2, c2, rfl, hc2⟩ := h2.len
  have H1 := Lib.hid h1
  have H2 := Lib.hid h2
  have HM := Lib.hid hm
  clear h1 h2 hm
  obtain ⟨n, hn⟩ : ∃ n, l.length = n := ⟨_, rfl⟩
  rw [hn] at hc1 hc2 hl H1 H2 ⊢
  have HN := Lib.hid hn
  clear hn
  go_enter Tryz.func92, Tryz.ntmps92
  go_wp2
  go_loopg [5] n (fun q i wr => ∃ k : Nat, k + q = n ∧ i = .int .i64 (k : Int) ∧ Hid (Below B w wr))
  case atStart => exact ⟨0, by omega, rfl, Below.refl _ _⟩
  case round =>
    obtain ⟨k, hk, rfl, HR⟩ := hrel
    by_cases hlt : k < n
    · obtain ⟨x, hx⟩ : ∃ x, l[k]? = some x := ⟨_, List.getElem?_eq_getElem (by have := HN.out; omega)⟩
      obtain ⟨b1, off, kv1, rfl, hb1, k1, p0⟩ := H1.out.at hx
      obtain ⟨b2, off2, kv2, rfl, hb2, k2, q0⟩ := H2.out.at hx
      have hrb := HR.out.size
      have hmx := HM.out x (List.mem_of_getElem? hx)
      have hB1 : B ≤ wr.heap.size := by omega
      replace p0 := (HR.out.cell (p := ⟨b1, off + k, none⟩) hb1).trans p0
      replace q0 := (HR.out.cell (p := ⟨b2, off2 + k, none⟩) hb2).trans q0
      have CE := Lib.hid (fun (W : World) (hW : Chg wr W (fun _ => False)) => cell_alike hmx (v := kv1) (u := kv2) (w := W) (B := B) ((k1.under HR.out (fun _ h => h)).chg hW (fun _ h => h) (fun _ _ h => h)) ((k2.under HR.out (fun _ h => h)).chg hW (fun _ h => h) (fun _ _ h => h)) (Nat.le_trans hB1 hW.size))
      clear hx
      go_wp2
      refine wp_region_held_drew (S := (fun w' => w'.cell? ⟨b1, off + k, none⟩ = some (kv1) ∧ w'.cell? ⟨b2, off2 + k, none⟩ = some (kv2))) (by kernel_rfl) ?_ (fun hHeld0 => ?_)
      · (try dsimp only)
        first | exact ⟨p0, q0⟩ | exact ⟨r0, s0⟩
      refine wpAnyH_take (i := 0) (oi := ⟨some 17, _, _, _, _, _⟩) (v := ?_) rfl (by kernel_rfl) (by kernel_rfl) (by kernel_rfl) (fun _ _ _ h => h) (Or.inl ⟨by kernel_rfl, ?_⟩) (by assumption) ?_
      rotate_left
      · (intro w hSw; (try dsimp only at hSw); go_simp; (first | done | with_reducible rfl))
      (try simp only [Act.put, List.setIfInBounds_toArray, List.set_cons_zero, List.set_cons_succ])
      refine wpAnyH_take (i := 1) (oi := ⟨some 18, _, _, _, _, _⟩) (v := ?_) rfl (by kernel_rfl) (by kernel_rfl) (by kernel_rfl) (fun _ _ _ h => h) (Or.inl ⟨by kernel_rfl, ?_⟩) (by assumption) ?_
      rotate_left
      · (intro w hSw; (try dsimp only at hSw); go_simp; (first | done | with_reducible rfl))
      (try simp only [Act.put, List.setIfInBounds_toArray, List.set_cons_zero, List.set_cons_succ])
      refine wpAnyH_take (i := 2) (oi := ⟨some 19, _, _, _, _, _⟩) (v := ?_) rfl (by kernel_rfl) (by kernel_rfl) (by kernel_rfl) (fun _ _ _ h => h) (Or.inl ⟨by kernel_rfl, ?_⟩) (by assumption) ?_
      rotate_left
      · (intro w hSw; (try dsimp only at hSw); go_simp; (first | done | with_reducible rfl))
      (try simp only [Act.put, List.setIfInBounds_toArray, List.set_cons_zero, List.set_cons_succ])
      refine wpAnyH_take (i := 3) (oi := ⟨some 20, _, _, _, _, _⟩) (v := ?_) rfl (by kernel_rfl) (by kernel_rfl) (by kernel_rfl) (fun _ _ _ h => h) (Or.inl ⟨by kernel_rfl, ?_⟩) (by assumption) ?_
      rotate_left
      · (intro w hSw; (try dsimp only at hSw); go_simp; (first | done | with_reducible rfl))
      (try simp only [Act.put, List.setIfInBounds_toArray, List.set_cons_zero, List.set_cons_succ])
      refine wpAnyH_take (i := 4) (oi := ⟨some 21, _, _, _, _, _⟩) (v := ?_) rfl (by kernel_rfl) (by kernel_rfl) (by kernel_rfl) (fun _ _ _ h => h) (Or.inl ⟨by kernel_rfl, ?_⟩) (by assumption) ?_
      rotate_left
      · (intro w hSw; (try dsimp only at hSw); go_simp; (first | done | with_reducible rfl))
      (try simp only [Act.put, List.setIfInBounds_toArray, List.set_cons_zero, List.set_cons_succ])
      refine wpAnyH_take (i := 5) (oi := ⟨some 22, _, _, _, _, _⟩) (v := ?_) rfl (by kernel_rfl) (by kernel_rfl) (by kernel_rfl) (fun _ _ _ h => h) (Or.inl ⟨by kernel_rfl, ?_⟩) (by assumption) ?_
      rotate_left
      · (intro w hSw; (try dsimp only at hSw); go_simp; (first | done | with_reducible rfl))
      (try simp only [Act.put, List.setIfInBounds_toArray, List.set_cons_zero, List.set_cons_succ])
      refine wpAnyH_take (i := 6) (oi := ⟨some 23, _, _, _, _, _⟩) (v := ?_) rfl (by kernel_rfl) (by kernel_rfl) (by kernel_rfl) (fun _ _ _ h => h) (Or.inl ⟨by kernel_rfl, ?_⟩) (by assumption) ?_
      rotate_left
      · (intro w hSw; (try dsimp only at hSw); go_simp; (first | done | with_reducible rfl))
      (try simp only [Act.put, List.setIfInBounds_toArray, List.set_cons_zero, List.set_cons_succ])
      refine wpAnyH_take (i := 7) (oi := ⟨some 24, _, _, _, _, _⟩) (v := ?_) rfl (by kernel_rfl) (by kernel_rfl) (by kernel_rfl) (fun _ _ _ h => h) (Or.inl ⟨by kernel_rfl, ?_⟩) (by assumption) ?_
      rotate_left
      · (intro w hSw; (try dsimp only at hSw); go_simp; (first | done | with_reducible rfl))
      (try simp only [Act.put, List.setIfInBounds_toArray, List.set_cons_zero, List.set_cons_succ])
      refine wpAnyH_ready (rs := [8]) (by kernel_rfl) (by simp) ?_
      refine AllReadyH.cons (o := ⟨some 25, _, _, _, _, _⟩) rfl (fun K hK => ?_) AllReadyH.nil
      go_simp
      refine (CE.out _ (by first | exact Chg.refl _ _ | exact (Chg.refl _ _).drew | exact (Chg.refl _ _).drew.drew)).mono ?_
      rintro e w2 ⟨rfl, hb2'⟩
      have HB2 : Hid (Below B wr w2) := by
        first
        | exact Lib.hid hb2'
        | exact Lib.hid (((Below.refl B wr).drew).trans hb2')
        | exact Lib.hid (((Below.refl B wr).drew.drew).trans hb2')
      clear hb2'
      have r0 := (HB2.out.cell (p := ⟨b1, off + k, none⟩) hb1).trans p0
      have s0 := (HB2.out.cell (p := ⟨b2, off2 + k, none⟩) hb2).trans q0
      refine hK.out _ _ ?_ (fun hHeld1 => ?_)
      · (try dsimp only)
        first | exact ⟨p0, q0⟩ | exact ⟨r0, s0⟩
      clear hK K hHeld0
      (try simp only [Act.put, List.setIfInBounds_toArray, List.set_cons_zero, List.set_cons_succ])
      refine wpAnyH_take (i := 9) (oi := ⟨some 26, _, _, _, _, _⟩) (v := ?_) rfl (by kernel_rfl) (by kernel_rfl) (by kernel_rfl) (fun _ _ _ h => h) (Or.inl ⟨by kernel_rfl, ?_⟩) (by assumption) ?_
      rotate_left
      · (intro w hSw; (try dsimp only at hSw); go_simp; (first | done | with_reducible rfl))
      (try simp only [Act.put, List.setIfInBounds_toArray, List.set_cons_zero, List.set_cons_succ])
      refine wpAnyH_done (by kernel_rfl) ?_ _
      go_wp2
      go_roundg (gk - 1)
      case measure => omega
      case rel => exact ⟨k + 1, by omega, by go_num, HR.out.trans HB2.out⟩
    · obtain rfl : k = n := by omega
      go_wp2
      go_ret
      exact ⟨rfl, HR.out⟩
theorem row_alike {l : List (List Sp)} (hm : (∀ x ∈ l, manyL x ≤ 1000000000) ∧ l.length ≤ 1000000) {v u : Value} {w : World} {B : Nat} (h1 : CellsF w (· < B) v l) (h2 : CellsF w (· < B) u l) (hB : B ≤ w.heap.size) :
    Calls Tryz.prog 71 #[.agg #[v], .agg #[u]] w fun e w' => e = .returned (.bool true) ∧ Below B w w' := by
  have hb := ((Below.refl B w).alloc hB (.cells #[v] 119)).alloc (by simp; omega) (.cells #[u] 119)
  have hk1 := CellsF.stays.under h1 hb (fun _ h => h)
  have hk2 := CellsF.stays.under h2 hb (fun _ h => h)
  have hs := hb.size
  have C := cells_alike hm.1 hm.2 hk1 hk2 (by omega)
  have HB := Lib.hid hb
  clear h1 h2 hk1 hk2 hb
  go_enter Tryz.func71, Tryz.ntmps71
  go_wp2_with fail
  refine C.mono ?_
  clear C
  rintro e w2 ⟨rfl, hb2⟩
  have HB2 := Lib.hid (HB.out.trans hb2)
  clear hb2
  go_wp2
  go_ret
  exact ⟨rfl, HB2.out⟩
set_option maxRecDepth 100000 in
set_option maxHeartbeats 4000000 in
theorem rows_alike {l : List (List (List Sp))} (hm : ∀ r ∈ l, (∀ x ∈ r, manyL x ≤ 1000000000) ∧ r.length ≤ 1000000) (hl : l.length ≤ 1000000) {v u : Value} {w : World} {B : Nat} (h1 : RowsF w (· < B) v l) (h2 : RowsF w (· < B) u l) (hB : B ≤ w.heap.size) :
    Calls Tryz.prog 44 #[v, u] w fun e w' => e = .returned (.bool true) ∧ Below B w w' := by
  obtain ⟨A1, c1, rfl, hc1⟩ := h1.len
  obtain ⟨A2, c2, rfl, hc2⟩ := h2.len
  have H1 := Lib.hid h1
  have H2 := Lib.hid h2
  have HM := Lib.hid hm
  clear h1 h2 hm
  obtain ⟨n, hn⟩ : ∃ n, l.length = n := ⟨_, rfl⟩
  rw [hn] at hc1 hc2 hl H1 H2 ⊢
  have HN := Lib.hid hn
  clear hn
  go_enter Tryz.func44, Tryz.ntmps44
  go_wp2
  go_loopg [5] n (fun q i wr => ∃ k : Nat, k + q = n ∧ i = .int .i64 (k : Int) ∧ Hid (Below B w wr))
  case atStart => exact ⟨0, by omega, rfl, Below.refl _ _⟩
  case round =>
    obtain ⟨k, hk, rfl, HR⟩ := hrel
    by_cases hlt : k < n
    · obtain ⟨x, hx⟩ : ∃ x, l[k]? = some x := ⟨_, List.getElem?_eq_getElem (by have := HN.out; omega)⟩
      obtain ⟨b1, off, kv1, rfl, hb1, k1, p0⟩ := H1.out.at hx
      obtain ⟨b2, off2, kv2, rfl, hb2, k2, q0⟩ := H2.out.at hx
      have hrb := HR.out.size
      have hmx := HM.out x (List.mem_of_getElem? hx)
      have hB1 : B ≤ wr.heap.size := by omega
      replace p0 := (HR.out.cell (p := ⟨b1, off + k, none⟩) hb1).trans p0
      replace q0 := (HR.out.cell (p := ⟨b2, off2 + k, none⟩) hb2).trans q0
      have CE := Lib.hid (fun (W : World) (hW : Chg wr W (fun _ => False)) => row_alike hmx (v := kv1) (u := kv2) (w := W) (B := B) (CellsF.stays.go (CellsF.stays.under k1 HR.out (fun _ h => h)) hW (fun _ h => h) (fun _ _ h => h)) (CellsF.stays.go (CellsF.stays.under k2 HR.out (fun _ h => h)) hW (fun _ h => h) (fun _ _ h => h)) (Nat.le_trans hB1 hW.size))
      clear hx
      go_wp2
      refine wp_region_held_drew (S := (fun w' => w'.cell? ⟨b1, off + k, none⟩ = some (kv1) ∧ w'.cell? ⟨b2, off2 + k, none⟩ = some (kv2))) (by kernel_rfl) ?_ (fun hHeld0 => ?_)
      · (try dsimp only)
        first | exact ⟨p0, q0⟩ | exact ⟨r0, s0⟩
      refine wpAnyH_take (i := 0) (oi := ⟨some 17, _, _, _, _, _⟩) (v := ?_) rfl (by kernel_rfl) (by kernel_rfl) (by kernel_rfl) (fun _ _ _ h => h) (Or.inl ⟨by kernel_rfl, ?_⟩) (by assumption) ?_
      rotate_left
      · (intro w hSw; (try dsimp only at hSw); go_simp; (first | done | with_reducible rfl))
      (try simp only [Act.put, List.setIfInBounds_toArray, List.set_cons_zero, List.set_cons_succ])
      refine wpAnyH_take (i := 1) (oi := ⟨some 18, _, _, _, _, _⟩) (v := ?_) rfl (by kernel_rfl) (by kernel_rfl) (by kernel_rfl) (fun _ _ _ h => h) (Or.inl ⟨by kernel_rfl, ?_⟩) (by assumption) ?_
      rotate_left
      · (intro w hSw; (try dsimp only at hSw); go_simp; (first | done | with_reducible rfl))
      (try simp only [Act.put, List.setIfInBounds_toArray, List.set_cons_zero, List.set_cons_succ])
      refine wpAnyH_take (i := 2) (oi := ⟨some 19, _, _, _, _, _⟩) (v := ?_) rfl (by kernel_rfl) (by kernel_rfl) (by kernel_rfl) (fun _ _ _ h => h) (Or.inl ⟨by kernel_rfl, ?_⟩) (by assumption) ?_
      rotate_left
      · (intro w hSw; (try dsimp only at hSw); go_simp; (first | done | with_reducible rfl))
      (try simp only [Act.put, List.setIfInBounds_toArray, List.set_cons_zero, List.set_cons_succ])
      refine wpAnyH_take (i := 3) (oi := ⟨some 20, _, _, _, _, _⟩) (v := ?_) rfl (by kernel_rfl) (by kernel_rfl) (by kernel_rfl) (fun _ _ _ h => h) (Or.inl ⟨by kernel_rfl, ?_⟩) (by assumption) ?_
      rotate_left
      · (intro w hSw; (try dsimp only at hSw); go_simp; (first | done | with_reducible rfl))
      (try simp only [Act.put, List.setIfInBounds_toArray, List.set_cons_zero, List.set_cons_succ])
      refine wpAnyH_take (i := 4) (oi := ⟨some 21, _, _, _, _, _⟩) (v := ?_) rfl (by kernel_rfl) (by kernel_rfl) (by kernel_rfl) (fun _ _ _ h => h) (Or.inl ⟨by kernel_rfl, ?_⟩) (by assumption) ?_
      rotate_left
      · (intro w hSw; (try dsimp only at hSw); go_simp; (first | done | with_reducible rfl))
      (try simp only [Act.put, List.setIfInBounds_toArray, List.set_cons_zero, List.set_cons_succ])
      refine wpAnyH_take (i := 5) (oi := ⟨some 22, _, _, _, _, _⟩) (v := ?_) rfl (by kernel_rfl) (by kernel_rfl) (by kernel_rfl) (fun _ _ _ h => h) (Or.inl ⟨by kernel_rfl, ?_⟩) (by assumption) ?_
      rotate_left
      · (intro w hSw; (try dsimp only at hSw); go_simp; (first | done | with_reducible rfl))
      (try simp only [Act.put, List.setIfInBounds_toArray, List.set_cons_zero, List.set_cons_succ])
      refine wpAnyH_take (i := 6) (oi := ⟨some 23, _, _, _, _, _⟩) (v := ?_) rfl (by kernel_rfl) (by kernel_rfl) (by kernel_rfl) (fun _ _ _ h => h) (Or.inl ⟨by kernel_rfl, ?_⟩) (by assumption) ?_
      rotate_left
      · (intro w hSw; (try dsimp only at hSw); go_simp; (first | done | with_reducible rfl))
      (try simp only [Act.put, List.setIfInBounds_toArray, List.set_cons_zero, List.set_cons_succ])
      refine wpAnyH_take (i := 7) (oi := ⟨some 24, _, _, _, _, _⟩) (v := ?_) rfl (by kernel_rfl) (by kernel_rfl) (by kernel_rfl) (fun _ _ _ h => h) (Or.inl ⟨by kernel_rfl, ?_⟩) (by assumption) ?_
      rotate_left
      · (intro w hSw; (try dsimp only at hSw); go_simp; (first | done | with_reducible rfl))
      (try simp only [Act.put, List.setIfInBounds_toArray, List.set_cons_zero, List.set_cons_succ])
      refine wpAnyH_ready (rs := [8]) (by kernel_rfl) (by simp) ?_
      refine AllReadyH.cons (o := ⟨some 25, _, _, _, _, _⟩) rfl (fun K hK => ?_) AllReadyH.nil
      go_simp
      refine (CE.out _ (by first | exact Chg.refl _ _ | exact (Chg.refl _ _).drew | exact (Chg.refl _ _).drew.drew)).mono ?_
      rintro e w2 ⟨rfl, hb2'⟩
      have HB2 : Hid (Below B wr w2) := by
        first
        | exact Lib.hid hb2'
        | exact Lib.hid (((Below.refl B wr).drew).trans hb2')
        | exact Lib.hid (((Below.refl B wr).drew.drew).trans hb2')
      clear hb2'
      have r0 := (HB2.out.cell (p := ⟨b1, off + k, none⟩) hb1).trans p0
      have s0 := (HB2.out.cell (p := ⟨b2, off2 + k, none⟩) hb2).trans q0
      refine hK.out _ _ ?_ (fun hHeld1 => ?_)
      · (try dsimp only)
        first | exact ⟨p0, q0⟩ | exact ⟨r0, s0⟩
      clear hK K hHeld0
      (try simp only [Act.put, List.setIfInBounds_toArray, List.set_cons_zero, List.set_cons_succ])
      refine wpAnyH_take (i := 9) (oi := ⟨some 26, _, _, _, _, _⟩) (v := ?_) rfl (by kernel_rfl) (by kernel_rfl) (by kernel_rfl) (fun _ _ _ h => h) (Or.inl ⟨by kernel_rfl, ?_⟩) (by assumption) ?_
      rotate_left
      · (intro w hSw; (try dsimp only at hSw); go_simp; (first | done | with_reducible rfl))
      (try simp only [Act.put, List.setIfInBounds_toArray, List.set_cons_zero, List.set_cons_succ])
      refine wpAnyH_done (by kernel_rfl) ?_ _
      go_wp2
      go_roundg (gk - 1)
      case measure => omega
      case rel => exact ⟨k + 1, by omega, by go_num, HR.out.trans HB2.out⟩
    · obtain rfl : k = n := by omega
      go_wp2
      go_ret
      exact ⟨rfl, HR.out⟩
def BlkSm (x : Bl) : Prop := manyL x.spans ≤ 1000000000 ∧ (∀ r ∈ x.rows, (∀ c ∈ r, manyL c ≤ 1000000000) ∧ r.length ≤ 1000000) ∧ x.rows.length ≤ 1000000
set_option maxRecDepth 100000 in
set_option maxHeartbeats 4000000 in
theorem block_alike {x : Bl} (hm : BlkSm x) {sA1 rA1 sA2 rA2 : Option Addr} {sc1 rc1 sc2 rc2 : Nat} {w : World} {B : Nat} (h1 : Forest w (· < B) (.slice sA1 x.spans.length sc1) x.spans) (k1 : RowsF w (· < B) (.slice rA1 x.rows.length rc1) x.rows) (h2 : Forest w (· < B) (.slice sA2 x.spans.length sc2) x.spans) (k2 : RowsF w (· < B) (.slice rA2 x.rows.length rc2) x.rows) (hB : B ≤ w.heap.size) :
    Calls Tryz.prog 25 #[.agg #[.int .u8 (x.kind : Int), .int .i64 (x.level : Int), .bool x.ordered, .string x.label, .string x.text, .slice sA1 x.spans.length sc1, .slice rA1 x.rows.length rc1, .string x.file, .int .i64 x.line], .agg #[.int .u8 (x.kind : Int), .int .i64 (x.level : Int), .bool x.ordered, .string x.label, .string x.text, .slice sA2 x.spans.length sc2, .slice rA2 x.rows.length rc2, .string x.file, .int .i64 x.line]] w fun e w' => e = .returned (.bool true) ∧ Below B w w' := by
  have hb := ((Below.refl B w).alloc hB (.cells #[.int .u8 (x.kind : Int), .int .i64 (x.level : Int), .bool x.ordered, .string x.label, .string x.text, .slice sA1 x.spans.length sc1, .slice rA1 x.rows.length rc1, .string x.file, .int .i64 x.line] 35)).alloc (by simp; omega) (.cells #[.int .u8 (x.kind : Int), .int .i64 (x.level : Int), .bool x.ordered, .string x.label, .string x.text, .slice sA2 x.spans.length sc2, .slice rA2 x.rows.length rc2, .string x.file, .int .i64 x.line] 35)
  have hs := hb.size
  have C1 := spans_alike x.spans hm.1 ((h1.under hb (fun _ h => h)).chg (Chg.refl _ (fun _ => False)) (fun b h => Nat.lt_of_lt_of_le h (Nat.le_trans hB hs)) (fun _ _ h => h)) ((h2.under hb (fun _ h => h)).chg (Chg.refl _ (fun _ => False)) (fun b h => Nat.lt_of_lt_of_le h (Nat.le_trans hB hs)) (fun _ _ h => h)) (Nat.le_refl _)
  have C2 := fun W (hW : Below B w W) => rows_alike hm.2.1 hm.2.2 (RowsF.stays.go (RowsF.stays.under k1 hW (fun _ h => h)) (Chg.refl _ (fun _ => False)) (fun b h => Nat.lt_of_lt_of_le h (Nat.le_trans hB hW.size)) (fun _ _ h => h)) (RowsF.stays.go (RowsF.stays.under k2 hW (fun _ h => h)) (Chg.refl _ (fun _ => False)) (fun b h => Nat.lt_of_lt_of_le h (Nat.le_trans hB hW.size)) (fun _ _ h => h)) (Nat.le_refl W.heap.size)
  have hX := (Holds.new w 35 #[.int .u8 (x.kind : Int), .int .i64 (x.level : Int), .bool x.ordered, .string x.label, .string x.text, .slice sA1 x.spans.length sc1, .slice rA1 x.rows.length rc1, .string x.file, .int .i64 x.line]).alloc (.cells #[.int .u8 (x.kind : Int), .int .i64 (x.level : Int), .bool x.ordered, .string x.label, .string x.text, .slice sA2 x.spans.length sc2, .slice rA2 x.rows.length rc2, .string x.file, .int .i64 x.line] 35)
  have hY := Holds.new (w.alloc (.cells #[.int .u8 (x.kind : Int), .int .i64 (x.level : Int), .bool x.ordered, .string x.label, .string x.text, .slice sA1 x.spans.length sc1, .slice rA1 x.rows.length rc1, .string x.file, .int .i64 x.line] 35)) 35 #[.int .u8 (x.kind : Int), .int .i64 (x.level : Int), .bool x.ordered, .string x.label, .string x.text, .slice sA2 x.spans.length sc2, .slice rA2 x.rows.length rc2, .string x.file, .int .i64 x.line]
  rw [World.size_alloc] at hY
  have HX := Lib.hid (And.intro hX (And.intro hY hb))
  have HC := Lib.hid C2
  clear h1 h2 k1 k2 hX hY C2 hb
  go_enter Tryz.func25, Tryz.ntmps25
  go_wp2_with fail
  refine C1.mono ?_
  clear C1
  rintro e w2 ⟨rfl, hb2⟩
  have hb3 := HX.out.2.2.trans (hb2.mono (by omega))
  have C2 := HC.out w2 hb3
  have hX2 := HX.out.1.below hb2 HX.out.1.lt
  have hY2 := HX.out.2.1.below hb2 HX.out.2.1.lt
  obtain ⟨a0, a1, a2, a3, a4, a5, a6, a7, a8⟩ := cells9 hX2
  obtain ⟨b0, b1, b2, b3, b4, b5, b6, b7, b8⟩ := cells9 hY2
  have H2 := Lib.hid (And.intro hb3 (And.intro hX2 hY2))
  clear hb3 hb2 hX2 hY2
  go_wp2_with fail
  refine C2.mono ?_
  clear C2 a0 a1 a2 a3 a4 a5 a6 a7 a8 b0 b1 b2 b3 b4 b5 b6 b7 b8
  rintro e w3 ⟨rfl, hb4⟩
  have hX3 := H2.out.2.1.below hb4 H2.out.2.1.lt
  have hY3 := H2.out.2.2.below hb4 H2.out.2.2.lt
  obtain ⟨a0, a1, a2, a3, a4, a5, a6, a7, a8⟩ := cells9 hX3
  obtain ⟨b0, b1, b2, b3, b4, b5, b6, b7, b8⟩ := cells9 hY3
  have H3 := Lib.hid (H2.out.1.trans (hb4.mono (Nat.le_trans hB H2.out.1.size)))
  clear hb4 hX3 hY3
  go_wp2
  go_ret
  exact ⟨rfl, H3.out⟩
set_option maxRecDepth 100000 in
set_option maxHeartbeats 4000000 in
theorem blocks_alike {l : List Bl} (hm : ∀ x ∈ l, BlkSm x) (hl : l.length ≤ 1000000) {v u : Value} {w : World} {B : Nat} (h1 : BlocksAt w B v l) (h2 : BlocksAt w B u l) (hB : B ≤ w.heap.size) :
    Calls Tryz.prog 13 #[v, u] w fun e w' => e = .returned (.bool true) ∧ Below B w w' := by
  obtain ⟨A1, c1, rfl, hc1⟩ := h1.form
  obtain ⟨A2, c2, rfl, hc2⟩ := h2.form
  have H1 := Lib.hid h1
  have H2 := Lib.hid h2
  have HM := Lib.hid hm
  clear h1 h2 hm
  obtain ⟨n, hn⟩ : ∃ n, l.length = n := ⟨_, rfl⟩
  rw [hn] at hc1 hc2 hl H1 H2 ⊢
  have HN := Lib.hid hn
  clear hn
  go_enter Tryz.func13, Tryz.ntmps13
  go_wp2
  go_loopg [5] n (fun q i wr => ∃ k : Nat, k + q = n ∧ i = .int .i64 (k : Int) ∧ Hid (Below B w wr))
  case atStart => exact ⟨0, by omega, rfl, Below.refl _ _⟩
  case round =>
    obtain ⟨k, hk, rfl, HR⟩ := hrel
    by_cases hlt : k < n
    · obtain ⟨x, hx⟩ : ∃ x, l[k]? = some x := ⟨_, List.getElem?_eq_getElem (by have := HN.out; omega)⟩
      obtain ⟨b1, off, sA1, sc1, rA1, rc1, rfl, hb1, f1, g1, p0, p1, p2, p3, p4, p5, p6, p7, p8⟩ := H1.out.at hx
      obtain ⟨b2, off2, sA2, sc2, rA2, rc2, rfl, hb2, f2, g2, q0, q1, q2, q3, q4, q5, q6, q7, q8⟩ := H2.out.at hx
      have hrb := HR.out.size
      have hmx := HM.out x (List.mem_of_getElem? hx)
      have hB1 : B ≤ wr.heap.size := by omega
      replace p0 := (HR.out.cell (p := ⟨b1, off + k * 9, none⟩) hb1).trans p0
      replace p1 := (HR.out.cell (p := ⟨b1, off + k * 9 + 1, none⟩) hb1).trans p1
      replace p2 := (HR.out.cell (p := ⟨b1, off + k * 9 + 2, none⟩) hb1).trans p2
      replace p3 := (HR.out.cell (p := ⟨b1, off + k * 9 + 3, none⟩) hb1).trans p3
      replace p4 := (HR.out.cell (p := ⟨b1, off + k * 9 + 4, none⟩) hb1).trans p4
      replace p5 := (HR.out.cell (p := ⟨b1, off + k * 9 + 5, none⟩) hb1).trans p5
      replace p6 := (HR.out.cell (p := ⟨b1, off + k * 9 + 6, none⟩) hb1).trans p6
      replace p7 := (HR.out.cell (p := ⟨b1, off + k * 9 + 7, none⟩) hb1).trans p7
      replace p8 := (HR.out.cell (p := ⟨b1, off + k * 9 + 8, none⟩) hb1).trans p8
      replace q0 := (HR.out.cell (p := ⟨b2, off2 + k * 9, none⟩) hb2).trans q0
      replace q1 := (HR.out.cell (p := ⟨b2, off2 + k * 9 + 1, none⟩) hb2).trans q1
      replace q2 := (HR.out.cell (p := ⟨b2, off2 + k * 9 + 2, none⟩) hb2).trans q2
      replace q3 := (HR.out.cell (p := ⟨b2, off2 + k * 9 + 3, none⟩) hb2).trans q3
      replace q4 := (HR.out.cell (p := ⟨b2, off2 + k * 9 + 4, none⟩) hb2).trans q4
      replace q5 := (HR.out.cell (p := ⟨b2, off2 + k * 9 + 5, none⟩) hb2).trans q5
      replace q6 := (HR.out.cell (p := ⟨b2, off2 + k * 9 + 6, none⟩) hb2).trans q6
      replace q7 := (HR.out.cell (p := ⟨b2, off2 + k * 9 + 7, none⟩) hb2).trans q7
      replace q8 := (HR.out.cell (p := ⟨b2, off2 + k * 9 + 8, none⟩) hb2).trans q8
      have CE := Lib.hid (fun (W : World) (hW : Chg wr W (fun _ => False)) => block_alike hmx (w := W) (B := B) ((f1.under HR.out (fun _ h => h)).chg hW (fun _ h => h) (fun _ _ h => h)) (RowsF.stays.go (RowsF.stays.under g1 HR.out (fun _ h => h)) hW (fun _ h => h) (fun _ _ h => h)) ((f2.under HR.out (fun _ h => h)).chg hW (fun _ h => h) (fun _ _ h => h)) (RowsF.stays.go (RowsF.stays.under g2 HR.out (fun _ h => h)) hW (fun _ h => h) (fun _ _ h => h)) (Nat.le_trans hB1 hW.size))
      clear hx
      go_wp2
      refine wp_region_held_drew (S := (fun w' => w'.cell? ⟨b1, off + k * 9, none⟩ = some (.int .u8 (x.kind : Int)) ∧ w'.cell? ⟨b1, off + k * 9 + 1, none⟩ = some (.int .i64 (x.level : Int)) ∧ w'.cell? ⟨b1, off + k * 9 + 2, none⟩ = some (.bool x.ordered) ∧ w'.cell? ⟨b1, off + k * 9 + 3, none⟩ = some (.string x.label) ∧ w'.cell? ⟨b1, off + k * 9 + 4, none⟩ = some (.string x.text) ∧ w'.cell? ⟨b1, off + k * 9 + 5, none⟩ = some (.slice sA1 x.spans.length sc1) ∧ w'.cell? ⟨b1, off + k * 9 + 6, none⟩ = some (.slice rA1 x.rows.length rc1) ∧ w'.cell? ⟨b1, off + k * 9 + 7, none⟩ = some (.string x.file) ∧ w'.cell? ⟨b1, off + k * 9 + 8, none⟩ = some (.int .i64 x.line) ∧ w'.cell? ⟨b2, off2 + k * 9, none⟩ = some (.int .u8 (x.kind : Int)) ∧ w'.cell? ⟨b2, off2 + k * 9 + 1, none⟩ = some (.int .i64 (x.level : Int)) ∧ w'.cell? ⟨b2, off2 + k * 9 + 2, none⟩ = some (.bool x.ordered) ∧ w'.cell? ⟨b2, off2 + k * 9 + 3, none⟩ = some (.string x.label) ∧ w'.cell? ⟨b2, off2 + k * 9 + 4, none⟩ = some (.string x.text) ∧ w'.cell? ⟨b2, off2 + k * 9 + 5, none⟩ = some (.slice sA2 x.spans.length sc2) ∧ w'.cell? ⟨b2, off2 + k * 9 + 6, none⟩ = some (.slice rA2 x.rows.length rc2) ∧ w'.cell? ⟨b2, off2 + k * 9 + 7, none⟩ = some (.string x.file) ∧ w'.cell? ⟨b2, off2 + k * 9 + 8, none⟩ = some (.int .i64 x.line))) (by kernel_rfl) ?_ (fun hHeld0 => ?_)
      · (try dsimp only)
        first | exact ⟨p0, p1, p2, p3, p4, p5, p6, p7, p8, q0, q1, q2, q3, q4, q5, q6, q7, q8⟩ | exact ⟨r0, r1, r2, r3, r4, r5, r6, r7, r8, s0, s1, s2, s3, s4, s5, s6, s7, s8⟩
      refine wpAnyH_take (i := 0) (oi := ⟨some 17, _, _, _, _, _⟩) (v := ?_) rfl (by kernel_rfl) (by kernel_rfl) (by kernel_rfl) (fun _ _ _ h => h) (Or.inl ⟨by kernel_rfl, ?_⟩) (by assumption) ?_
      rotate_left
      · (intro w hSw; (try dsimp only at hSw); go_simp; (first | done | with_reducible rfl))
      (try simp only [Act.put, List.setIfInBounds_toArray, List.set_cons_zero, List.set_cons_succ])
      refine wpAnyH_take (i := 1) (oi := ⟨some 18, _, _, _, _, _⟩) (v := ?_) rfl (by kernel_rfl) (by kernel_rfl) (by kernel_rfl) (fun _ _ _ h => h) (Or.inl ⟨by kernel_rfl, ?_⟩) (by assumption) ?_
      rotate_left
      · (intro w hSw; (try dsimp only at hSw); go_simp; (first | done | with_reducible rfl))
      (try simp only [Act.put, List.setIfInBounds_toArray, List.set_cons_zero, List.set_cons_succ])
      refine wpAnyH_take (i := 2) (oi := ⟨some 19, _, _, _, _, _⟩) (v := ?_) rfl (by kernel_rfl) (by kernel_rfl) (by kernel_rfl) (fun _ _ _ h => h) (Or.inl ⟨by kernel_rfl, ?_⟩) (by assumption) ?_
      rotate_left
      · (intro w hSw; (try dsimp only at hSw); go_simp; (first | done | with_reducible rfl))
      (try simp only [Act.put, List.setIfInBounds_toArray, List.set_cons_zero, List.set_cons_succ])
      refine wpAnyH_take (i := 3) (oi := ⟨some 20, _, _, _, _, _⟩) (v := ?_) rfl (by kernel_rfl) (by kernel_rfl) (by kernel_rfl) (fun _ _ _ h => h) (Or.inl ⟨by kernel_rfl, ?_⟩) (by assumption) ?_
      rotate_left
      · (intro w hSw; (try dsimp only at hSw); go_simp; (first | done | with_reducible rfl))
      (try simp only [Act.put, List.setIfInBounds_toArray, List.set_cons_zero, List.set_cons_succ])
      refine wpAnyH_take (i := 4) (oi := ⟨some 21, _, _, _, _, _⟩) (v := ?_) rfl (by kernel_rfl) (by kernel_rfl) (by kernel_rfl) (fun _ _ _ h => h) (Or.inl ⟨by kernel_rfl, ?_⟩) (by assumption) ?_
      rotate_left
      · (intro w hSw; (try dsimp only at hSw); go_simp; (first | done | with_reducible rfl))
      (try simp only [Act.put, List.setIfInBounds_toArray, List.set_cons_zero, List.set_cons_succ])
      refine wpAnyH_take (i := 5) (oi := ⟨some 22, _, _, _, _, _⟩) (v := ?_) rfl (by kernel_rfl) (by kernel_rfl) (by kernel_rfl) (fun _ _ _ h => h) (Or.inl ⟨by kernel_rfl, ?_⟩) (by assumption) ?_
      rotate_left
      · (intro w hSw; (try dsimp only at hSw); go_simp; (first | done | with_reducible rfl))
      (try simp only [Act.put, List.setIfInBounds_toArray, List.set_cons_zero, List.set_cons_succ])
      refine wpAnyH_take (i := 6) (oi := ⟨some 23, _, _, _, _, _⟩) (v := ?_) rfl (by kernel_rfl) (by kernel_rfl) (by kernel_rfl) (fun _ _ _ h => h) (Or.inl ⟨by kernel_rfl, ?_⟩) (by assumption) ?_
      rotate_left
      · (intro w hSw; (try dsimp only at hSw); go_simp; (first | done | with_reducible rfl))
      (try simp only [Act.put, List.setIfInBounds_toArray, List.set_cons_zero, List.set_cons_succ])
      refine wpAnyH_take (i := 7) (oi := ⟨some 24, _, _, _, _, _⟩) (v := ?_) rfl (by kernel_rfl) (by kernel_rfl) (by kernel_rfl) (fun _ _ _ h => h) (Or.inl ⟨by kernel_rfl, ?_⟩) (by assumption) ?_
      rotate_left
      · (intro w hSw; (try dsimp only at hSw); go_simp; (first | done | with_reducible rfl))
      (try simp only [Act.put, List.setIfInBounds_toArray, List.set_cons_zero, List.set_cons_succ])
      refine wpAnyH_ready (rs := [8]) (by kernel_rfl) (by simp) ?_
      refine AllReadyH.cons (o := ⟨some 25, _, _, _, _, _⟩) rfl (fun K hK => ?_) AllReadyH.nil
      go_simp
      refine (CE.out _ (by first | exact Chg.refl _ _ | exact (Chg.refl _ _).drew | exact (Chg.refl _ _).drew.drew)).mono ?_
      rintro e w2 ⟨rfl, hb2'⟩
      have HB2 : Hid (Below B wr w2) := by
        first
        | exact Lib.hid hb2'
        | exact Lib.hid (((Below.refl B wr).drew).trans hb2')
        | exact Lib.hid (((Below.refl B wr).drew.drew).trans hb2')
      clear hb2'
      have r0 := (HB2.out.cell (p := ⟨b1, off + k * 9, none⟩) hb1).trans p0
      have r1 := (HB2.out.cell (p := ⟨b1, off + k * 9 + 1, none⟩) hb1).trans p1
      have r2 := (HB2.out.cell (p := ⟨b1, off + k * 9 + 2, none⟩) hb1).trans p2
      have r3 := (HB2.out.cell (p := ⟨b1, off + k * 9 + 3, none⟩) hb1).trans p3
      have r4 := (HB2.out.cell (p := ⟨b1, off + k * 9 + 4, none⟩) hb1).trans p4
      have r5 := (HB2.out.cell (p := ⟨b1, off + k * 9 + 5, none⟩) hb1).trans p5
      have r6 := (HB2.out.cell (p := ⟨b1, off + k * 9 + 6, none⟩) hb1).trans p6
      have r7 := (HB2.out.cell (p := ⟨b1, off + k * 9 + 7, none⟩) hb1).trans p7
      have r8 := (HB2.out.cell (p := ⟨b1, off + k * 9 + 8, none⟩) hb1).trans p8
      have s0 := (HB2.out.cell (p := ⟨b2, off2 + k * 9, none⟩) hb2).trans q0
      have s1 := (HB2.out.cell (p := ⟨b2, off2 + k * 9 + 1, none⟩) hb2).trans q1
      have s2 := (HB2.out.cell (p := ⟨b2, off2 + k * 9 + 2, none⟩) hb2).trans q2
      have s3 := (HB2.out.cell (p := ⟨b2, off2 + k * 9 + 3, none⟩) hb2).trans q3
      have s4 := (HB2.out.cell (p := ⟨b2, off2 + k * 9 + 4, none⟩) hb2).trans q4
      have s5 := (HB2.out.cell (p := ⟨b2, off2 + k * 9 + 5, none⟩) hb2).trans q5
      have s6 := (HB2.out.cell (p := ⟨b2, off2 + k * 9 + 6, none⟩) hb2).trans q6
      have s7 := (HB2.out.cell (p := ⟨b2, off2 + k * 9 + 7, none⟩) hb2).trans q7
      have s8 := (HB2.out.cell (p := ⟨b2, off2 + k * 9 + 8, none⟩) hb2).trans q8
      refine hK.out _ _ ?_ (fun hHeld1 => ?_)
      · (try dsimp only)
        first | exact ⟨p0, p1, p2, p3, p4, p5, p6, p7, p8, q0, q1, q2, q3, q4, q5, q6, q7, q8⟩ | exact ⟨r0, r1, r2, r3, r4, r5, r6, r7, r8, s0, s1, s2, s3, s4, s5, s6, s7, s8⟩
      clear hK K hHeld0
      (try simp only [Act.put, List.setIfInBounds_toArray, List.set_cons_zero, List.set_cons_succ])
      refine wpAnyH_take (i := 9) (oi := ⟨some 26, _, _, _, _, _⟩) (v := ?_) rfl (by kernel_rfl) (by kernel_rfl) (by kernel_rfl) (fun _ _ _ h => h) (Or.inl ⟨by kernel_rfl, ?_⟩) (by assumption) ?_
      rotate_left
      · (intro w hSw; (try dsimp only at hSw); go_simp; (first | done | with_reducible rfl))
      (try simp only [Act.put, List.setIfInBounds_toArray, List.set_cons_zero, List.set_cons_succ])
      refine wpAnyH_done (by kernel_rfl) ?_ _
      go_wp2
      go_roundg (gk - 1)
      case measure => omega
      case rel => exact ⟨k + 1, by omega, by go_num, HR.out.trans HB2.out⟩
    · obtain rfl : k = n := by omega
      go_wp2
      go_ret
      exact ⟨rfl, HR.out⟩
set_option maxRecDepth 100000 in
set_option maxHeartbeats 4000000 in
theorem diags_alike {l : List Dg} (hl : l.length ≤ 1000000) {v u : Value} {w : World} {B : Nat} (h1 : DiagsAt w B v l) (h2 : DiagsAt w B u l) (hB : B ≤ w.heap.size) :
    Calls Tryz.prog 14 #[v, u] w fun e w' => e = .returned (.bool true) ∧ Below B w w' := by
  obtain ⟨A1, c1, rfl, hc1⟩ := h1.form
  obtain ⟨A2, c2, rfl, hc2⟩ := h2.form
  have H1 := Lib.hid h1
  have H2 := Lib.hid h2
  clear h1 h2
  obtain ⟨n, hn⟩ : ∃ n, l.length = n := ⟨_, rfl⟩
  rw [hn] at hc1 hc2 hl H1 H2 ⊢
  have HN := Lib.hid hn
  clear hn
  go_enter Tryz.func14, Tryz.ntmps14
  go_wp2
  go_loopg [5] n (fun q i wr => ∃ k : Nat, k + q = n ∧ i = .int .i64 (k : Int) ∧ Hid (Below B w wr))
  case atStart => exact ⟨0, by omega, rfl, Below.refl _ _⟩
  case round =>
    obtain ⟨k, hk, rfl, HR⟩ := hrel
    by_cases hlt : k < n
    · obtain ⟨x, hx⟩ : ∃ x, l[k]? = some x := ⟨_, List.getElem?_eq_getElem (by have := HN.out; omega)⟩
      obtain ⟨b1, off, rfl, hb1, p0, p1, p2, p3⟩ := H1.out.at hx
      obtain ⟨b2, off2, rfl, hb2, q0, q1, q2, q3⟩ := H2.out.at hx
      replace p0 := (HR.out.cell (p := ⟨b1, off + k * 4, none⟩) hb1).trans p0
      replace p1 := (HR.out.cell (p := ⟨b1, off + k * 4 + 1, none⟩) hb1).trans p1
      replace p2 := (HR.out.cell (p := ⟨b1, off + k * 4 + 2, none⟩) hb1).trans p2
      replace p3 := (HR.out.cell (p := ⟨b1, off + k * 4 + 3, none⟩) hb1).trans p3
      replace q0 := (HR.out.cell (p := ⟨b2, off2 + k * 4, none⟩) hb2).trans q0
      replace q1 := (HR.out.cell (p := ⟨b2, off2 + k * 4 + 1, none⟩) hb2).trans q1
      replace q2 := (HR.out.cell (p := ⟨b2, off2 + k * 4 + 2, none⟩) hb2).trans q2
      replace q3 := (HR.out.cell (p := ⟨b2, off2 + k * 4 + 3, none⟩) hb2).trans q3
      clear hx
      go_wp2
      go_quiet (fail)
      go_wp2
      go_roundg (gk - 1)
      case measure => omega
      case rel => exact ⟨k + 1, by omega, by go_num, Go.below_drewN HR.out _⟩
    · obtain rfl : k = n := by omega
      go_wp2
      go_ret
      exact ⟨rfl, HR.out⟩
end Go.Proofs.YtcjmfjccjhdgjaaGreatDoor
namespace Go.Bd
mutual
def dw1 : Sp → Nat
  | ⟨k, t, _, _, kids⟩ => (if k = 0 then max 1 t.length else 1) + dwL kids
def dwL : List Sp → Nat
  | [] => 0
  | x :: l => dw1 x + dwL l
end
mutual
theorem many_dw1 : ∀ x : Sp, many1 x ≤ dw1 x
  | ⟨k, t, u, v, ks⟩ => by
    have := many_dwL ks
    simp only [many1, dw1]
    split <;> omega
theorem many_dwL : ∀ l : List Sp, manyL l ≤ dwL l
  | [] => Nat.le_refl _
  | x :: l => by
    have h1 := many_dw1 x
    have h2 := many_dwL l
    simp only [manyL, dwL]; omega
end
theorem dwL_app : ∀ a b : List Sp, dwL (a ++ b) = dwL a + dwL b
  | [], b => by simp [dwL]
  | x :: a, b => by rw [List.cons_append, dwL, dwL, dwL_app a b, Nat.add_assoc]
theorem dw_txt {s : Bs} (h : s ≠ []) : dw1 (txt s) = s.length := by
  have := List.length_pos_iff.2 h
  simp only [txt, dw1, if_true, dwL]; omega
def dwR (r : Rw) : Nat := dwL r.sp + r.tx.length
def dwF (f : Fr) : Nat := dwR f.row + f.sign.length
def dwFs (l : List Fr) : Nat := (l.map dwF).sum
theorem dwFs_cons (f : Fr) (l : List Fr) : dwFs (f :: l) = dwF f + dwFs l := by simp [dwFs]
theorem dwR_write (r : Rw) (s : Bs) : dwR (r.write s) = dwR r + s.length := by simp [dwR, Rw.write]; omega
theorem dwL_flush (r : Rw) : dwL r.flush.sp = dwR r := by
  unfold Rw.flush
  split
  · rename_i h; simp [dwR, h]
  · rename_i h
    simp only [dwL_app, dwL, dw_txt h, dwR]; omega
theorem dwR_add (r : Rw) (x : Sp) : dwR (r.add x) ≤ dwR r + dw1 x := by
  obtain ⟨k, t, u, v, ks⟩ := x
  unfold Rw.add
  split
  · rename_i h
    rw [dwR_write, dw1, if_pos h]; simp only; omega
  · simp only [dwR, dwL_app, dwL, List.length_nil]
    rw [dwL_flush, dwR]; omega
theorem dwR_adds : ∀ (l : List Sp) (r : Rw), dwR (l.foldl Rw.add r) ≤ dwR r + dwL l
  | [], r => by simp [dwL]
  | x :: l, r => by
    have h1 := dwR_adds l (r.add x)
    have h2 := dwR_add r x
    simp only [List.foldl_cons, dwL]; omega
theorem dwR_spill (f : Fr) (r : Rw) : dwR (spill f r) ≤ dwR r + dwF f := by
  have := dwR_adds f.row.sp (r.write f.sign)
  rw [dwR_write] at this
  rw [spill, dwR_write, dwF, show dwR f.row = dwL f.row.sp + f.row.tx.length from rfl]
  omega
theorem dw_onTop {g : Rw → Rw} {n : Nat} (h : ∀ r, dwR (g r) ≤ dwR r + n) (l : List Fr) : dwFs (onTop g l) ≤ dwFs l + n := by
  cases l with
  | nil => simp [onTop]
  | cons f r =>
    have := h f.row
    simp only [onTop, dwFs_cons, dwF]
    omega
theorem dw_write (st : Pst) (s : Bs) : dwFs (st.write s).fs ≤ dwFs st.fs + s.length := dw_onTop (g := (·.write s)) (n := s.length) (fun r => by rw [dwR_write]; exact Nat.le_refl _) st.fs
theorem dw_drop1 (st : Pst) : dwFs st.drop1.fs ≤ dwFs st.fs := by
  obtain ⟨fs, fa⟩ := st
  match fs with
  | [] => exact Nat.le_refl _
  | [f] => exact Nat.le_refl _
  | f :: g :: r =>
    have := dw_onTop (dwR_spill f) (g :: r)
    simp only [Pst.drop1, dwFs_cons] at *
    omega
theorem dw_dropN : ∀ (n : Nat) (st : Pst), dwFs (st.dropN n).fs ≤ dwFs st.fs
  | 0, _ => Nat.le_refl _
  | n + 1, st => Nat.le_trans (dw_dropN n st.drop1) (dw_drop1 st)
theorem dw_fin (st : Pst) (n : Nat) : dwFs (st.fin n).fs ≤ dwFs st.fs + 1 := by
  have h := dw_dropN (st.fs.length - 1 - n) st
  unfold Pst.fin Pst.drop
  generalize st.dropN (st.fs.length - 1 - n) = sd at h
  obtain ⟨fs, fa⟩ := sd
  match fs, h with
  | [], h => simp only [Pst.shut] at *; omega
  | f :: r, h =>
    have e : dw1 ⟨f.kind, [], [], [], f.row.flush.sp⟩ = 1 + dwR f.row := by
      simp only [dw1, dwL_flush]; split <;> rfl
    have := dw_onTop (n := 1 + dwR f.row) (g := (·.add ⟨f.kind, [], [], [], f.row.flush.sp⟩)) (fun q => by rw [← e]; exact dwR_add q _) r
    simp only [Pst.shut, dwFs_cons, dwF] at *
    omega
theorem dw_between {st : Pst} {s a b : Bs} {i : Nat} {asf : Bs → Sp ⊕ Nat} (has : asf = codeS ∨ asf = refS ∨ asf = termS) (ha : 1 ≤ a.length) (hb : 1 ≤ b.length) (hi : i + a.length ≤ s.length) (h : dwFs st.fs ≤ i) : dwFs (st.between s i a b asf).1.fs ≤ (st.between s i a b asf).2 := by
  unfold Pst.between
  split
  · have := dw_write st a
    exact Nat.le_trans this (by simp only; omega)
  · rename_i n hn
    obtain ⟨h1, h2⟩ := nextAt_some hi hn
    split
    · have := dw_write st ((s.drop i).take (n + b.length - i))
      rw [List.length_take, List.length_drop] at this
      exact Nat.le_trans this (by simp only; omega)
    · rename_i x hx
      obtain ⟨_, p2, p3, _⟩ := as_wt has hx
      have e : dw1 x = 1 := by
        obtain ⟨k, t, u, v, ks⟩ := x
        simp only at p2 p3
        subst p3
        simp only [dw1, if_neg p2, dwL]
      have := dw_onTop (n := 1) (g := (·.add x)) (fun q => by rw [← e]; exact dwR_add q _) st.fs
      exact Nat.le_trans this (by simp only; omega)
theorem dw_begin (st : Pst) (k i : Nat) (sign : Bs) : dwFs (st.begin k i sign).fs = dwFs st.fs + sign.length := by
  simp only [Pst.begin, dwFs_cons, dwF, dwR, Rw.none, dwL, List.length_nil]; omega
theorem dw_mark {st : Pst} {s : Bs} {i k : Nat} (h : dwFs st.fs ≤ i) : dwFs (st.mark s i k).fs ≤ i + 1 := by
  unfold Pst.mark
  split
  · have := dw_fin st (lastK k st.fs); omega
  · split
    · have := dw_write st [s.getD i 0]; simp only [List.length_cons, List.length_nil] at this; omega
    · split
      · have := dw_write st [s.getD i 0]; simp only [List.length_cons, List.length_nil] at this; exact Nat.le_trans this (by omega)
      · rw [dw_begin]; simp only [List.length_cons, List.length_nil]; omega
theorem dw_step {st : Pst} {s : Bs} {i : Nat} (hi : i < s.length) (h : dwFs st.fs ≤ i) : dwFs (st.step s i).1.fs ≤ (st.step s i).2 := by
  unfold Pst.step
  split
  · have := dw_write st [s.getD (i + 1) 0]; simp only [List.length_cons, List.length_nil] at this; simp only; omega
  split
  · exact dw_between (.inl rfl) (by simp) (by simp) (by simp; omega) h
  split
  · rename_i hp; exact dw_between (.inr (.inl rfl)) (by simp) (by simp) (prefix_two hp) h
  split
  · rename_i hp; exact dw_between (.inr (.inr rfl)) (by simp) (by simp) (prefix_two hp) h
  split
  · simp only
    split
    · rw [dw_begin]; simp only [List.length_cons, List.length_nil]; omega
    · have := dw_write st [94, 91]; simp only [List.length_cons, List.length_nil] at this; exact Nat.le_trans this (by omega)
  split
  · have := dw_fin st (lastK 6 st.fs); simp only; omega
  split
  · exact dw_mark h
  split
  · exact dw_mark h
  · have := dw_write st [s.getD i 0]; simp only [List.length_cons, List.length_nil] at this; simp only; omega
theorem dw_run {s : Bs} : ∀ (n i : Nat) (st : Pst), Inv st i → dwFs st.fs ≤ i → i ≤ s.length → dwFs (runP s n i st).fs ≤ s.length
  | 0, i, st, _, h, hi => Nat.le_trans h hi
  | n + 1, i, st, hI, h, hi => by
    rw [runP]
    split
    · rename_i hlt
      obtain ⟨h3, h4, h5⟩ := hI.step hlt
      exact dw_run n _ _ h3 (dw_step hlt h) h5
    · exact Nat.le_trans h hi
theorem many_spans (s : Bs) : manyL (spansOf s) ≤ s.length := by
  have h := dw_run (s := s) s.length 0 Pst.first Inv.first (by decide) (Nat.zero_le _)
  have h2 := dw_dropN ((runP s s.length 0 Pst.first).fs.length - 1 - 0) (runP s s.length 0 Pst.first)
  obtain ⟨f, hf⟩ := endP_one s
  have h3 : dwFs (endP s).fs ≤ s.length := Nat.le_trans h2 h
  rw [hf, dwFs_cons] at h3
  unfold spansOf
  rw [hf]
  simp only
  have h4 := many_dwL f.row.flush.sp
  rw [dwL_flush] at h4
  unfold dwF at h3
  omega
end Go.Bd
namespace Go.Bd
open Go.RowKit
theorem run_append_nil {P : Program} {w : World} (base : Nat) (t ty e : TypeId) (i : TypeInfo) (size : Nat) (ht : P.underlying t = some (.slice e)) (hi : P.info? e = some i)
    (v : Value) (n : Nat) (xs : List Value) (hown : w.ownsRow base e size v n xs) (c : Nat) :
    (Builtin.append_ #[t, t] ty #[v, .slice none 0 c]).run P w = .ok v w := by
  rcases hown.2 with ⟨rfl, rfl⟩ | ⟨g, cap, cur, rfl, _, _, hnc, _⟩
  · simp [Builtin.append_, run_underlying ht, sizeOf, typeInfo, hi, Builtin.lenOf, Builtin.firstCells]
  · simp [Builtin.append_, run_underlying ht, sizeOf, typeInfo, hi, Builtin.lenOf, Builtin.firstCells, hnc, storeCells]
theorem run_append_all {P : Program} (w : World) (t ty : TypeId) (base : Nat) (e : TypeId) (i : TypeInfo) (z : Value) (size bytes : Nat) (ht : P.underlying t = some (.slice e)) (hi : P.info? e = some i) (hz : i.zero = some z)
    (hsize : i.size = size) (hby : i.bytes = bytes) (hzs : z.cells.size = size) (hsz : 0 < size)
    (v : Value) (n : Nat) (xs : List Value) (hown : w.ownsRow base e size v n xs)
    (A : Option Addr) (m c : Nat) (news : List Value) (hl : news.length = m * size) (hnews : ∀ j u, news[j]? = some u → ∃ ad, A = some ad ∧ w.cell? (ad.add j) = some u) (h1 : ∀ u ∈ news, u.oneCell' = true)
    (h63 : n + m ≤ maxLen) (hbytes : (n + m) * bytes ≤ 140737488355328) (hbase : base ≤ w.heap.size) :
    ∃ A' cap w', (Builtin.append_ #[t, t] ty #[v, .slice A m c]).run P w = .ok (.slice A' (n + m) cap) w' ∧
      w'.ownsRow base e size (.slice A' (n + m) cap) (n + m) (xs ++ news) ∧ w.grownBy w' v.ownBlock ∧ ∀ k, (Value.slice A' (n + m) cap).ownBlock = some k → v.ownBlock = some k ∨ k = w.heap.size := by
  have form : ∀ (v' : Value) (W : World) (q : Nat) (xs' : List Value), W.ownsRow base e size v' q xs' → ∃ A' cap, v' = .slice A' q cap := fun v' W q xs' h => by
    rcases h.2 with ⟨rfl, h0⟩ | ⟨g, cap, cur, rfl, _⟩
    · exact ⟨none, 0, by rw [h0]⟩
    · exact ⟨_, _, rfl⟩
  cases A with
  | some ad =>
    obtain ⟨v', w', hr, h2, h3, _, h5⟩ := run_append_own_at (P := P) w base t ty e i z size bytes ht hi hz hsize hby hzs hsz v n xs hown ad m c news hl (fun j u hj => by obtain ⟨_, e1, e2⟩ := hnews j u hj; cases e1; exact e2) h1 h63 hbytes hbase
    obtain ⟨A', cap, rfl⟩ := form _ _ _ _ h2
    refine ⟨A', cap, w', hr, h2, h3, fun k hk => ?_⟩
    rcases h5 with h5 | h5
    · exact .inl (h5 ▸ hk)
    · exact .inr (by rw [h5] at hk; cases hk; rfl)
  | none =>
    have hm : news = [] := by
      cases news with
      | nil => rfl
      | cons u r => obtain ⟨_, e1, _⟩ := hnews 0 u rfl; cases e1
    subst hm
    have hm0 : m = 0 := by
      rw [List.length_nil] at hl
      rcases Nat.mul_eq_zero.1 hl.symm with h | h <;> omega
    subst hm0
    obtain ⟨A', cap, rfl⟩ := form v w n xs hown
    exact ⟨A', cap, w, run_append_nil base t ty e i size ht hi _ n xs hown c, by rw [List.append_nil]; exact hown, World.grownBy.refl _ _, fun k hk => .inl hk⟩
theorem wpList_append_all {P : Program} {w : World} {ops : Array Oper} {rest : List Oper} {o : Oper} {a : Act} {Q : Exit → Act → World → Prop} (hgd : Region.wanted o (yielded ops a.tmps) = true) (s x : Operand) (t : TypeId)
    (ho : o.op = .call { callee := .builtin .append, args := #[s, x], argTypes := #[t, t] })
    (base : Nat) (e : TypeId) (i : TypeInfo) (z : Value) (size bytes : Nat) (ht : P.underlying t = some (.slice e)) (hi : P.info? e = some i) (hz : i.zero = some z)
    (hsize : i.size = size) (hby : i.bytes = bytes) (hzs : z.cells.size = size) (hsz : 0 < size)
    (v : Value) (n : Nat) (xs : List Value) (hs : a.eval s = v) (hown : w.ownsRow base e size v n xs)
    (A : Option Addr) (m c : Nat) (news : List Value) (hx : a.eval x = .slice A m c) (hl : news.length = m * size) (hnews : ∀ j u, news[j]? = some u → ∃ ad, A = some ad ∧ w.cell? (ad.add j) = some u) (h1 : ∀ u ∈ news, u.oneCell' = true)
    (q : Nat) (hq : n + m = q) (zs : List Value) (hzq : xs ++ news = zs) (h63 : q ≤ maxLen) (hbytes : q * bytes ≤ 140737488355328) (hbase : base ≤ w.heap.size)
    (h : ∀ A' cap w', w'.ownsRow base e size (.slice A' q cap) q zs → w.grownBy w' v.ownBlock → (∀ k, (Value.slice A' q cap).ownBlock = some k → v.ownBlock = some k ∨ k = w.heap.size) → wpList P ops Q rest (a.put o.dst (.slice A' q cap)) w') : wpList P ops Q (o :: rest) a w := by
  subst hq
  subst hzq
  refine wpList_step fun K hK => ?_
  rw [if_pos hgd]
  obtain ⟨A', cap, w', hr, h2, h3, h4⟩ := run_append_all (P := P) w t o.type base e i z size bytes ht hi hz hsize hby hzs hsz v n xs hown A m c news hl hnews h1 h63 hbytes hbase
  unfold Oper.wp execOp
  simp only [ho, resolve, invoke, builtin, Sem.run_bind, Sem.run_pure, Result.andThen_ok, List.map_toArray, List.map_cons, List.map_nil, hs, hx, hr]
  exact hK _ _ (h A' cap w' h2 h3 h4)
theorem own_cells {w : World} {base n sz c : Nat} {t : TypeId} {A : Option Addr} {xs : List Value} (h : w.ownsRow base t sz (.slice A n c) n xs) : ∀ j u, xs[j]? = some u → ∃ ad, A = some ad ∧ w.cell? (ad.add j) = some u := by
  intro j u hu
  rcases h.2 with ⟨e1, e2⟩ | ⟨g, cap, cur, e1, _⟩
  · have := h.1
    rw [e2, Nat.zero_mul] at this
    rw [List.length_eq_zero_iff.1 this] at hu
    simp at hu
  · injection e1 with e1 e2 e3
    subst e1
    exact ⟨_, rfl, h.cells (g := g) rfl j u hu⟩
theorem rowBl_append : ∀ {a : List Bl} {ka : List (Value × Value)} (b : List Bl) (kb : List (Value × Value)), ka.length = a.length → rowBl (a ++ b) (ka ++ kb) = rowBl a ka ++ rowBl b kb
  | [], [], b, kb, _ => rfl
  | [], _ :: _, _, _, h => by simp at h
  | x :: a, [], _, _, h => by simp at h
  | x :: a, k :: ka, b, kb, h => by
    simp only [List.cons_append, rowBl, List.append_assoc]
    rw [rowBl_append b kb (by simpa using h)]
def TreesAt (w : World) (F : Nat → Prop) (bs : List Bl) (kvs : List (Value × Value)) : Prop := ∀ (j : Nat) x kv, bs[j]? = some x → kvs[j]? = some kv → Forest w F kv.1 x.spans ∧ RowsF w F kv.2 x.rows
theorem TreesAt.tail {w : World} {F : Nat → Prop} {x : Bl} {bs : List Bl} {kv : Value × Value} {kvs : List (Value × Value)} (h : TreesAt w F (x :: bs) (kv :: kvs)) : TreesAt w F bs kvs := fun j y ku hy hk => h (j + 1) y ku (by simpa using hy) (by simpa using hk)
theorem rowBl_one {w : World} {F : Nat → Prop} : ∀ {bs : List Bl} {kvs : List (Value × Value)}, TreesAt w F bs kvs → ∀ u ∈ rowBl bs kvs, u.oneCell' = true
  | [], _, _, u, h => by simp [rowBl] at h
  | _ :: _, [], _, u, h => by simp [rowBl] at h
  | x :: bs, kv :: kvs, hT, u, h => by
    rw [rowBl] at h
    rcases List.mem_append.1 h with h | h
    · obtain ⟨h1, h2⟩ := hT 0 x kv rfl rfl
      obtain ⟨sA, sc, e1, _⟩ := h1.form
      obtain ⟨rA, rc, e2, _⟩ := h2.len
      simp only [blCells, e1, e2, List.mem_cons, List.not_mem_nil, or_false] at h
      rcases h with rfl | rfl | rfl | rfl | rfl | rfl | rfl | rfl | rfl <;> rfl
    · exact rowBl_one hT.tail u h
theorem TreesAt.append {w : World} {F : Nat → Prop} {a b : List Bl} {ka kb : List (Value × Value)} (h : TreesAt w F a ka) (k : TreesAt w F b kb) (hl : ka.length = a.length) : TreesAt w F (a ++ b) (ka ++ kb) := fun j x kv hx hk => by
  by_cases hj : j < a.length
  · rw [List.getElem?_append_left hj] at hx
    rw [List.getElem?_append_left (by omega)] at hk
    exact h j x kv hx hk
  · rw [List.getElem?_append_right (by omega)] at hx
    rw [List.getElem?_append_right (by omega), hl] at hk
    exact k _ x kv hx hk
theorem TreesAt.chg {w w' : World} {F G S : Nat → Prop} {bs : List Bl} {kvs : List (Value × Value)} (h : TreesAt w F bs kvs) (hc : Chg w w' S) (hF : ∀ k, F k → G k) (hS : ∀ k, F k → ¬ S k) : TreesAt w' G bs kvs :=
  fun j x kv hx hk => ⟨(h j x kv hx hk).1.chg hc hF hS, RowsF.stays.go (h j x kv hx hk).2 hc hF hS⟩
theorem BlocksAt.own {w : World} {base B : Nat} {v : Value} {bs : List Bl} {kvs : List (Value × Value)} (h : w.ownsRow base tBl 9 v bs.length (rowBl bs kvs)) (hl : kvs.length = bs.length) (hT : TreesAt w (· < B) bs kvs) (hB : w.heap.size ≤ B) : BlocksAt w B v bs := by
  rcases h.2 with ⟨h1, h2⟩ | ⟨g, cap, cur, rfl, h2, h3, h4, _⟩
  · have e : bs = [] := List.length_eq_zero_iff.1 h2
    subst e
    exact ⟨none, 0, kvs, h1, Nat.le_refl _, hl, fun hn => absurd rfl hn, hT⟩
  · refine ⟨_, cap, kvs, rfl, h4, hl, fun _ => ⟨g, 0, rfl, Nat.lt_of_lt_of_le (Array.getElem?_eq_some_iff.1 h3).1 hB, fun j x kv hj hk i u hu => ?_⟩, hT⟩
    have h5 := h.cells (g := g) rfl _ _ (rowBl_get hj hk hu)
    rw [addr_add] at h5
    rw [Nat.zero_add]
    exact h5
theorem DiagsAt.own {w : World} {base B : Nat} {v : Value} {ds : List Dg} (h : w.ownsRow base tDg 4 v ds.length (rowD ds)) (hB : w.heap.size ≤ B) : DiagsAt w B v ds := by
  rcases h.2 with ⟨h1, h2⟩ | ⟨g, cap, cur, rfl, h2, h3, h4, _⟩
  · have e : ds = [] := List.length_eq_zero_iff.1 h2
    subst e
    exact ⟨none, 0, h1, Nat.le_refl _, fun hn => absurd rfl hn⟩
  · refine ⟨_, cap, rfl, h4, fun _ => ⟨g, 0, rfl, Nat.lt_of_lt_of_le (Array.getElem?_eq_some_iff.1 h3).1 hB, fun j x hj i u hu => ?_⟩⟩
    have h5 := h.cells (g := g) rfl _ _ (rowD_get hj hu)
    rw [addr_add] at h5
    rw [Nat.zero_add]
    exact h5
end Go.Bd
namespace Go.Proofs.YtcjmfjccjhdgjaaGreatDoor
open Go.RowKit Go.Bd
theorem BlkSm.plain {x : Bl} (h : manyL x.spans ≤ 1000000000) (hr : x.rows = []) : BlkSm x := by
  unfold BlkSm
  rw [hr]
  refine ⟨h, ?_, Nat.zero_le _⟩
  intro r hr
  cases hr
theorem spans_sm {s : Bs} (h : s.length ≤ 100000) : manyL (spansOf s) ≤ 1000000000 := by have := many_spans s; omega
theorem rowOf_len (s : ByteArray) : (rowOf s).length ≤ s.size + 1 := by
  have h1 : (rowOf s).length ≤ (pieces ⟨(Lib.trimPrefix (trim s.data.toList) [124]).toArray⟩).length := by
    unfold rowOf dropEnd
    split
    · rw [List.length_take, List.length_map]; omega
    · rw [List.length_map]; exact Nat.le_refl _
  have h2 := Lib.countB_le bar (by decide) _ ⟨(Lib.trimPrefix (trim s.data.toList) [124]).toArray⟩ (Nat.le_refl _)
  rw [pieces_length] at h1
  rw [size_mk] at h2
  have h3 : (Lib.trimPrefix (trim s.data.toList) [124]).length ≤ (trim s.data.toList).length := by
    unfold Lib.trimPrefix
    split
    · rw [List.length_drop]; omega
    · exact Nat.le_refl _
  have h4 := trim_size s
  omega
theorem rows_sm : ∀ {l : List Ln}, wtX l ≤ 100000 → ∀ r ∈ l.flatMap rowT, (∀ c ∈ r, manyL c ≤ 1000000000) ∧ r.length ≤ 1000000
  | [], _, r, h => by simp at h
  | x :: l, hw, r, h => by
    rw [wtX] at hw
    rw [List.flatMap_cons] at h
    rcases List.mem_append.1 h with h | h
    · unfold rowT at h
      split at h
      · cases h
      · rw [List.mem_singleton] at h
        subst h
        have h0 : (tr x.text).size ≤ x.text.size := tr_le x.text
        refine ⟨fun c hc => ?_, ?_⟩
        · obtain ⟨t, ht, rfl⟩ := List.mem_map.1 hc
          have h1 := rowOf_sum (tr x.text)
          have h2 := le_sum_mem (List.mem_map_of_mem (f := (·.size)) ht)
          have h3 := size_list t
          exact spans_sm (by omega)
        · rw [List.length_map]
          have := rowOf_len (tr x.text)
          omega
    · exact rows_sm (l := l) (by omega) r h
theorem titled_sm {x : Bl} {f : ByteArray} {no : Int} {s : ByteArray} (h : s.size ≤ 100000) (hr : (∀ r ∈ x.rows, (∀ c ∈ r, manyL c ≤ 1000000000) ∧ r.length ≤ 1000000) ∧ x.rows.length ≤ 1000000) : BlkSm (titledB x f no s) := by
  have h1 := titleB_le s.data.toList
  have h2 := size_list s
  exact ⟨spans_sm (s := (titleB s.data.toList).1) (by omega), hr.1, hr.2⟩
theorem no_rows_sm : (∀ r ∈ ([] : List (List (List Sp))), (∀ c ∈ r, manyL c ≤ 1000000000) ∧ r.length ≤ 1000000) ∧ ([] : List (List (List Sp))).length ≤ 1000000 := by
  refine ⟨?_, Nat.zero_le _⟩
  intro r h
  cases h
theorem cmd_sm (f : ByteArray) (no : Int) (s : ByteArray) (wd bh : Bs) (h : bh.length ≤ 100000) : ∀ b ∈ (cmdR f no s wd bh).2.1, BlkSm b := by
  unfold cmdR
  split
  · split
    · intro b hb; cases hb
    · intro b hb
      simp only [figR, List.mem_singleton] at hb
      subst hb
      have := fig_le bh
      exact titled_sm (by rw [size_mk]; omega) no_rows_sm
  split
  · intro b hb
    simp only [noteR, List.mem_singleton] at hb
    subst hb
    exact BlkSm.plain (spans_sm h) rfl
  · intro b hb; cases hb
theorem read_sm (f : ByteArray) (no : Int) (s : ByteArray) (rest : List Ln) (h : s.size + wtX rest ≤ 100000) : ∀ b ∈ (readR f no s rest).2.1, BlkSm b := by
  unfold readR
  split
  · intro b hb
    simp only [headR, List.mem_singleton] at hb
    subst hb
    have h2 := lead_le s.data.toList 61
    have h3 := size_list s
    exact titled_sm (by rw [size_mk]; omega) no_rows_sm
  split
  · intro b hb
    simp only [itemR, List.mem_singleton] at hb
    subst hb
    have hiz : (itemB s.data.toList).2.2.length ≤ s.size := by
      have h1 := trim_size s
      unfold itemB
      split
      · exact Nat.le_trans (lead_le _ _) h1
      · split
        · exact Nat.le_trans (lead_le _ _) h1
        · simp
    exact BlkSm.plain (spans_sm (by omega)) rfl
  split
  · intro b hb; cases hb
  split
  · intro b hb
    simp only [codeR, List.mem_singleton] at hb
    subst hb
    exact BlkSm.plain (Nat.zero_le _) rfl
  split
  · intro b hb
    simp only [tableR, List.mem_singleton] at hb
    subst hb
    have h4 : (tabT s).size ≤ s.size := by
      unfold tabT
      rw [size_mk]
      have := dropL_le (s.data.toList.drop 4)
      rw [List.length_drop, ← size_list] at this
      omega
    have h5 := wtX_split rest (tabN rest)
    have h6 := rowTs_le (rest.take (tabN rest))
    have h7 := wtX_len (rest.take (tabN rest))
    exact titled_sm (by omega) ⟨rows_sm (l := rest.take (tabN rest)) (by omega), by show ((rest.take (tabN rest)).flatMap rowT).length ≤ 1000000; omega⟩
  · intro b hb
    simp only [paraR, List.mem_singleton] at hb
    subst hb
    have h1 := tail_len (rest.take (untilN (fun t => !plainL t) rest))
    have h3 : (paraB rest 0 s).length ≤ s.size + wtX (rest.take (untilN (fun t => !plainL t) rest)) := by
      unfold paraB paraT
      rw [List.drop_zero, Lib.join_cons, List.length_append, ← size_list]
      omega
    have h5 := wtX_split rest (untilN (fun t => !plainL t) rest)
    exact BlkSm.plain (spans_sm (by omega)) rfl
theorem step_sm (x : Ln) (rest : List Ln) (h : wtX (x :: rest) ≤ 100000) : ∀ b ∈ (stepR x rest).2.1, BlkSm b := by
  rw [wtX] at h
  have hs : (tr x.text).size ≤ x.text.size := tr_le x.text
  unfold stepR
  split
  · rename_i p hp
    have h2 := (command_le hp).2
    have h3 := trim_size x.text
    exact cmd_sm _ _ _ _ _ (by omega)
  · exact read_sm _ _ _ _ (by omega)
theorem blocks_sm : ∀ (m : Nat) (l : List Ln), l.length ≤ m → wtX l ≤ 100000 → ∀ b ∈ blocksOf l, BlkSm b
  | _, [], _, _, b, hb => by rw [blocksOf_nil] at hb; cases hb
  | 0, x :: l, h, _, _, _ => by simp at h
  | m + 1, x :: l, h, hw, b, hb => by
    rw [blocksOf_cons] at hb
    rcases List.mem_append.1 hb with hb | hb
    · exact step_sm x l hw b hb
    · have h1 := wtX_split l (stepR x l).1
      rw [wtX] at hw
      exact blocks_sm m (l.drop (stepR x l).1) (by simp at h ⊢; omega) (by omega) b hb
end Go.Proofs.YtcjmfjccjhdgjaaGreatDoor
namespace Go.Proofs.YtcjmfjccjhdgjaaGreatDoor
open Go.RowKit Go.Bd
theorem texts_form {w : World} {B : Nat} {v : Value} {xs : List ByteArray} (h : Rd w B v (xs.map Value.string)) : ∃ A c, v = .slice A xs.length c ∧ xs.length ≤ c ∧ ∀ (j : Nat) s, xs[j]? = some s → ∃ b off, A = some ⟨b, off, none⟩ ∧ b < B ∧ w.cell? ⟨b, off + j, none⟩ = some (.string s) := by
  obtain ⟨A, c, hv, hc, h⟩ := Rd.form h
  rw [List.length_map] at hv hc
  exact ⟨A, c, hv, hc, fun j s hj => h j _ (by rw [List.getElem?_map, hj]; rfl)⟩
theorem sum_take_succ {xs : List Nat} {k x : Nat} (h : xs[k]? = some x) : (xs.take (k + 1)).sum = (xs.take k).sum + x := by
  obtain ⟨hk, e⟩ := List.getElem?_eq_some_iff.1 h
  rw [List.take_succ_eq_append_getElem hk, List.sum_append, e]; simp
def textsOk (xs : List ByteArray) (n : Nat) : Prop := n ≤ 1048576 → n = xs.length + (xs.map ByteArray.size).sum
set_option maxRecDepth 100000 in
theorem textsSize_any (v : Value) (xs : List ByteArray) (w : World) (B : Nat) (h : Rd w B v (xs.map Value.string)) (hl : xs.length ≤ 140737488355328) (hx : ∀ s ∈ xs, s.size ≤ 140737488355328) :
    Calls Tryz.prog 10 #[v] w fun e w' => (∃ n : Nat, e = .returned (.int .i64 n) ∧ n ≤ 281474976710656 ∧ textsOk xs n) ∧ w = w' := by
  obtain ⟨A, c, rfl, hc, f⟩ := texts_form h
  have F := Lib.hid f
  have HX := Lib.hid hx
  clear f hx h
  generalize hn : xs.length = n at hl hc ⊢
  have HN := Lib.hid hn
  clear hn
  go_enter Tryz.func10, Tryz.ntmps10
  go_wp2
  go_loopg [3, 4] n (fun r s i wr => ∃ k t : Nat, k + r = n ∧ i = .int .i64 k ∧ s = .int .i64 t ∧ t ≤ 281474976710656 ∧ Hid (t = n + ((xs.map ByteArray.size).take k).sum) ∧ w = wr)
  case atStart => exact ⟨0, n, by omega, rfl, rfl, by omega, by unfold Hid; simp, rfl⟩
  case round =>
    obtain ⟨k, t, hk, rfl, rfl, ht, HT, rfl⟩ := hrel
    by_cases hlt : k < n
    · by_cases hbig : t ≤ 1048576
      · obtain ⟨x, hxk⟩ : ∃ x, xs[k]? = some x := ⟨_, List.getElem?_eq_getElem (by rw [HN.out]; exact hlt)⟩
        obtain ⟨b, off, rfl, _, hcx⟩ := F.out k x hxk
        have hxb := HX.out x (List.mem_of_getElem? hxk)
        have HS := Lib.hid (sum_take_succ (xs := xs.map ByteArray.size) (k := k) (x := x.size) (by rw [List.getElem?_map, hxk]; rfl))
        clear hxk
        go_wp2
        go_roundg (gk - 1)
        case measure => omega
        case rel => exact ⟨k + 1, t + x.size, by omega, by go_num, by go_num, by omega, by unfold Hid; rw [HS.out, HT.out]; omega, rfl⟩
      · go_wp2
        go_ret
        exact ⟨⟨t, rfl, ht, fun h => absurd h (by omega)⟩, rfl⟩
    · go_wp2
      all_goals
        go_ret
        refine ⟨⟨t, rfl, ht, fun _ => ?_⟩, rfl⟩
        have h1 := HT.out
        rw [List.take_of_length_le (by rw [List.length_map, HN.out]; omega)] at h1
        rw [HN.out]; exact h1
end Go.Proofs.YtcjmfjccjhdgjaaGreatDoor
namespace Go.Bd
open Go.RowKit
def FaOk (st : Pst) : Prop := ∀ p ∈ st.faults, p.2 ≠ 0
theorem FaOk.first : FaOk Pst.first := fun p h => by simp [Pst.first] at h
theorem FaOk.same {a b : Pst} (h : FaOk a) (e : b.faults = a.faults) : FaOk b := fun p hp => h p (e ▸ hp)
theorem FaOk.top {st : Pst} (h : FaOk st) (g : Rw → Rw) : FaOk (st.top g) := h.same rfl
theorem FaOk.write {st : Pst} (h : FaOk st) (s : Bs) : FaOk (st.write s) := h.same rfl
theorem FaOk.tell {st : Pst} (h : FaOk st) (i : Nat) {f : Nat} (hf : f ≠ 0) : FaOk (st.tell i f) := fun p hp => by
  rcases List.mem_append.1 hp with hp | hp
  · exact h p hp
  · rw [List.mem_singleton] at hp
    rw [hp]; exact hf
theorem FaOk.begin {st : Pst} (h : FaOk st) (k i : Nat) (s : Bs) : FaOk (st.begin k i s) := h.same rfl
theorem FaOk.drop1 {st : Pst} (h : FaOk st) : FaOk st.drop1 := by
  obtain ⟨fs, fa⟩ := st
  unfold Pst.drop1
  split
  · intro p hp
    rcases List.mem_append.1 hp with hp | hp
    · exact h p hp
    · rw [List.mem_singleton] at hp
      rw [hp]; show 7 ≠ 0; omega
  · exact h
theorem FaOk.dropN : ∀ (n : Nat) {st : Pst}, FaOk st → FaOk (st.dropN n)
  | 0, _, h => h
  | n + 1, _, h => FaOk.dropN n h.drop1
theorem FaOk.drop {st : Pst} (h : FaOk st) (n : Nat) : FaOk (st.drop n) := FaOk.dropN _ h
theorem FaOk.shut {st : Pst} (h : FaOk st) : FaOk st.shut := by
  obtain ⟨fs, fa⟩ := st
  unfold Pst.shut
  split <;> exact h.same rfl
theorem FaOk.fin {st : Pst} (h : FaOk st) (n : Nat) : FaOk (st.fin n) := (h.drop n).shut
theorem FaOk.between {st : Pst} (h : FaOk st) (s : Bs) (i : Nat) (a b : Bs) {ga : Bs → Sp ⊕ Nat} (has : ∀ l f, ga l = .inr f → f ≠ 0) : FaOk (st.between s i a b ga).1 := by
  unfold Pst.between
  split
  · exact (h.write a).tell i (by omega)
  · split
    · rename_i f hf
      exact (h.write _).tell i (has _ _ hf)
    · exact h.top _
theorem FaOk.mark {st : Pst} (h : FaOk st) (s : Bs) (i k : Nat) : FaOk (st.mark s i k) := by
  unfold Pst.mark
  split
  · exact h.fin _
  · split
    · exact h.write _
    · split
      · exact (h.write _).tell i (by omega)
      · exact h.begin _ _ _
theorem codeS_ok (l : Bs) (f : Nat) (h : codeS l = .inr f) : f ≠ 0 := by cases h
theorem refS_ok (l : Bs) (f : Nat) (h : refS l = .inr f) : f ≠ 0 := by
  unfold refS at h
  split at h
  · cases h
  · cases h; omega
theorem termS_ok (l : Bs) (f : Nat) (h : termS l = .inr f) : f ≠ 0 := by
  unfold termS at h
  split at h
  · cases h
  · cases h; omega
theorem FaOk.step {st : Pst} (h : FaOk st) (s : Bs) (i : Nat) : FaOk (st.step s i).1 := by
  unfold Pst.step
  split
  · exact h.write _
  split
  · exact h.between s i _ _ codeS_ok
  split
  · exact h.between s i _ _ refS_ok
  split
  · exact h.between s i _ _ termS_ok
  split
  · simp only
    split
    · exact h.begin _ _ _
    · exact (h.write _).tell i (by omega)
  split
  · exact h.fin _
  split
  · exact h.mark s i 1
  split
  · exact h.mark s i 2
  · exact h.write _
theorem FaOk.run (s : Bs) : ∀ (n i : Nat) {st : Pst}, FaOk st → FaOk (runP s n i st)
  | 0, _, _, h => h
  | n + 1, i, st, h => by
    unfold runP
    split
    · exact FaOk.run s n _ (h.step s i)
    · exact h
theorem faults_ne {s : Bs} {f : Nat} (h : f ∈ faultsOf s) : f ≠ 0 := by
  unfold faultsOf at h
  obtain ⟨p, hp, rfl⟩ := List.mem_map.1 h
  have h1 : p ∈ faultsAt s := (sortF_perm (faultsAt s)).mem_iff.1 hp
  exact (FaOk.run s s.length 0 FaOk.first).drop 0 p h1
def e0 : ByteArray := ⟨#[]⟩
def BlkOk (x : Bl) : Prop :=
  (x.kind = 1 ∧ 1 ≤ x.level ∧ x.level ≤ 3 ∧ x.ordered = false ∧ x.text = e0 ∧ x.rows = []) ∨
  (x.kind = 2 ∧ x.level = 0 ∧ x.ordered = false ∧ x.label = e0 ∧ x.text = e0 ∧ x.rows = []) ∨
  (x.kind = 3 ∧ 1 ≤ x.level ∧ x.level ≤ 3 ∧ x.label = e0 ∧ x.text = e0 ∧ x.rows = []) ∨
  (x.kind = 4 ∧ x.level = 0 ∧ x.ordered = false ∧ x.label = e0 ∧ x.spans = [] ∧ x.rows = []) ∨
  (x.kind = 5 ∧ x.level = 0 ∧ x.ordered = false ∧ x.label = e0 ∧ x.rows = []) ∨
  (x.kind = 6 ∧ x.level = 0 ∧ x.ordered = false ∧ x.text = e0) ∨
  (x.kind = 7 ∧ x.level = 0 ∧ x.ordered = false ∧ x.rows = [])
end Go.Bd
namespace Go.Proofs.YtcjmfjccjhdgjaaGreatDoor
open Go.RowKit Go.Bd
def Told2 (a b : Int) (l : List Dg) : Prop := l.Pairwise (fun x y => x.line ≤ y.line) ∧ ∀ x ∈ l, x.file = ⟨#[102]⟩ ∧ a ≤ x.line ∧ x.line ≤ b ∧ x.fault ≠ 0
theorem Told2.nil (a b : Int) : Told2 a b [] := ⟨List.Pairwise.nil, fun x h => by cases h⟩
theorem Told2.append {a b c : Int} {l r : List Dg} (h : Told2 a b l) (k : Told2 b c r) (hab : a ≤ b) (hbc : b ≤ c) : Told2 a c (l ++ r) := by
  refine ⟨List.pairwise_append.2 ⟨h.1, k.1, fun x hx y hy => ?_⟩, fun x hx => ?_⟩
  · have h1 := (h.2 x hx).2.2.1
    have h2 := (k.2 y hy).2.1
    omega
  · rcases List.mem_append.1 hx with hx | hx
    · obtain ⟨e1, e2, e3, e4⟩ := h.2 x hx
      exact ⟨e1, e2, by omega, e4⟩
    · obtain ⟨e1, e2, e3, e4⟩ := k.2 x hx
      exact ⟨e1, by omega, e3, e4⟩
theorem Told2.more {a b a' b' : Int} {l : List Dg} (h : Told2 a b l) (ha : a' ≤ a) (hb : b ≤ b') : Told2 a' b' l :=
  ⟨h.1, fun x hx => by obtain ⟨e1, e2, e3, e4⟩ := h.2 x hx; exact ⟨e1, by omega, by omega, e4⟩⟩
theorem Told2.one (no : Int) {k : Nat} (hk : k ≠ 0) (t : ByteArray) : Told2 no no [⟨⟨#[102]⟩, no, k, t⟩] :=
  ⟨List.pairwise_singleton _ _, fun x hx => by rw [List.mem_singleton] at hx; subst hx; exact ⟨rfl, Int.le_refl _, Int.le_refl _, hk⟩⟩
theorem Told2.faults (no : Int) (t : ByteArray) (s : Bs) : Told2 no no ((faultsOf s).map (dgOf ⟨#[102]⟩ no t)) := by
  refine ⟨?_, fun x hx => ?_⟩
  · rw [List.pairwise_map]
    exact List.pairwise_of_forall (fun _ _ => Int.le_refl _)
  · obtain ⟨k, hk, rfl⟩ := List.mem_map.1 hx
    exact ⟨rfl, Int.le_refl _, Int.le_refl _, faults_ne hk⟩
theorem Told2.cells (no : Int) : ∀ l : List ByteArray, Told2 no no (l.flatMap fun t => (faultsOf t.data.toList).map (dgOf ⟨#[102]⟩ no t))
  | [] => Told2.nil _ _
  | t :: l => by
    rw [List.flatMap_cons]
    exact (Told2.faults no t _).append (Told2.cells no l) (Int.le_refl _) (Int.le_refl _)
theorem Told2.row (no : Int) (x : ByteArray) : Told2 no no (rowF ⟨⟨#[102]⟩, no, x⟩) := by
  unfold rowF
  split
  · exact Told2.nil _ _
  split
  · exact Told2.one no (by omega) _
  · exact Told2.cells no _
theorem diags_count : ∀ (m : Nat) (l : List Ln), l.length ≤ m → (diagsOf l).length ≤ 3 * wtX l
  | _, [], _ => Nat.zero_le _
  | 0, x :: l, h => by simp at h
  | m + 1, x :: l, h => by
    have h1 := step_ds x l
    have h2 := diags_count m (l.drop (stepR x l).1) (by simp at h ⊢; omega)
    have h3 := wtX_split l (stepR x l).1
    rw [diagsOf_cons, List.length_append, wtX]
    omega
end Go.Proofs.YtcjmfjccjhdgjaaGreatDoor
namespace Go.Bd
open Go.RowKit
theorem strs_one {xs : List ByteArray} {u : Value} (h : u ∈ xs.map Value.string) : u.oneCell' = true := by
  obtain ⟨s, _, rfl⟩ := List.mem_map.1 h
  rfl
theorem addr_addN (g k j : Nat) : (⟨g, k, none⟩ : Addr).add j = ⟨g, k + j, none⟩ := by unfold Addr.add; split <;> simp_all
theorem rowL_news {w : World} {base : Nat} {t : TypeId} {g cap n : Nat} {a b : List Ln} (h : w.ownsRow base t 3 (.slice (some ⟨g, 0, none⟩) n cap) n (rowL (a ++ b))) (k : Nat) (hk : k = a.length * 3) : ∀ j u, (rowL b)[j]? = some u → ∃ ad, some (⟨g, k, none⟩ : Addr) = some ad ∧ w.cell? (ad.add j) = some u := by
  intro j u hu
  refine ⟨_, rfl, ?_⟩
  have h5 := h.cells (g := g) rfl (k + j) u (by
    rw [rowL_append, List.getElem?_append_right (by rw [rowL_length]; omega), rowL_length, hk, Nat.add_sub_cancel_left]
    exact hu)
  rw [addr_add] at h5
  rw [addr_addN]
  exact h5
end Go.Bd
namespace Go.Proofs.YtcjmfjccjhdgjaaGreatDoor
open Go.RowKit Go.Bd
theorem joins_lines (xs ys : List ByteArray) (h : ∀ d ∈ diagsOf (linesOf xs), d.fault ≠ 4) :
    blocksOf (linesOf (xs ++ [⟨#[]⟩] ++ ys)) = blocksOf (linesOf xs) ++ blocksOf (lnsFrom (1 + xs.length) ([⟨#[]⟩] ++ ys)) ∧ diagsOf (linesOf (xs ++ [⟨#[]⟩] ++ ys)) = diagsOf (linesOf xs) ++ diagsOf (lnsFrom (1 + xs.length) ([⟨#[]⟩] ++ ys)) := by
  have e : linesOf (xs ++ [⟨#[]⟩] ++ ys) = linesOf xs ++ lnsFrom (1 + xs.length) ([⟨#[]⟩] ++ ys) := by
    unfold linesOf
    rw [List.append_assoc, lnsFrom_append]
  rw [e]
  exact joins_told _ (linesOf xs) _ (e := ⟨⟨#[102]⟩, ((1 + xs.length : Nat) : Int), ⟨#[]⟩⟩) (by show trim [] = []; decide) (Nat.le_refl _) h
set_option maxRecDepth 100000 in
set_option maxHeartbeats 16000000 in
theorem blocksJoins_true (v : Value) (xs : List ByteArray) (u : Value) (ys : List ByteArray) (m : Int) (w : World) (hm : Glob m w) (hR : Rd w w.heap.size v (xs.map Value.string)) (hb : xs.length ≤ 140737488355328 ∧ ∀ s ∈ xs, s.size ≤ 140737488355328)
    (hS : Rd w w.heap.size u (ys.map Value.string)) (hc : ys.length ≤ 140737488355328 ∧ ∀ s ∈ ys, s.size ≤ 140737488355328) :
    Calls Tryz.prog 4 #[v, u] w fun e w' => e = .returned (.bool true) ∧ Below w.heap.size w w' := by
  obtain ⟨A, c, rfl, hcl, f1⟩ := texts_form hR
  obtain ⟨A2, c2, rfl, hcl2, f2⟩ := texts_form hS
  have CA := alive_any hm
  have CT := fun (W : World) (hW : Below w.heap.size w W) => textsSize_any _ xs W w.heap.size (hR.below hW) hb.1 hb.2
  have CU := fun (W : World) (hW : Below w.heap.size w W) => textsSize_any _ ys W w.heap.size (hS.below hW) hc.1 hc.2
  have HM := Lib.hid (And.intro hm (And.intro hR hS))
  have HT := Lib.hid (And.intro CT CU)
  have HF := Lib.hid (And.intro f1 f2)
  obtain ⟨n, hn⟩ : ∃ n, xs.length = n := ⟨_, rfl⟩
  obtain ⟨k, hk⟩ : ∃ k, ys.length = k := ⟨_, rfl⟩
  have hnb : n ≤ 140737488355328 := hn ▸ hb.1
  have hkb : k ≤ 140737488355328 := hk ▸ hc.1
  rw [hn] at HM HT hcl ⊢
  rw [hk] at HM HT hcl2 ⊢
  have HN := Lib.hid (And.intro hn hk)
  clear hm hR hS hb hc CT CU hn hk f1 f2
  go_enter Tryz.func4, Tryz.ntmps4
  go_wp2_with fail
  refine CA.mono ?_
  clear CA
  rintro e w1 ⟨rfl, hb1⟩
  have HB1 := Lib.hid hb1
  clear hb1
  by_cases hbig : 150 < n
  · have hbi : decide (150 < (n : Int)) = true := by simp; omega
    have CA := alive_any (HM.out.1.below HB1.out)
    go_wp2_with fail
    refine CA.mono ?_
    rintro e w2 ⟨rfl, hb2⟩
    go_wp2
    go_ret
    exact ⟨rfl, HB1.out.trans (hb2.mono HB1.out.size)⟩
  have hbi : decide (150 < (n : Int)) = false := by simp; omega
  by_cases hbig2 : 150 < k
  · have hbi2 : decide (150 < (k : Int)) = true := by simp; omega
    have CA := alive_any (HM.out.1.below HB1.out)
    go_wp2_with fail
    refine CA.mono ?_
    rintro e w2 ⟨rfl, hb2⟩
    go_wp2
    go_ret
    exact ⟨rfl, HB1.out.trans (hb2.mono HB1.out.size)⟩
  have hbi2 : decide (150 < (k : Int)) = false := by simp; omega
  have C1 := HT.out.1 w1 HB1.out
  go_wp2_with fail
  refine C1.mono ?_
  clear C1
  rintro e w2 ⟨⟨z, rfl, hz, hok⟩, rfl⟩
  have C2 := HT.out.2 w1 HB1.out
  go_wp2_with fail
  refine C2.mono ?_
  clear C2
  rintro e w2 ⟨⟨z2, rfl, hz2, hok2⟩, rfl⟩
  by_cases hz4 : 4000 < z + z2
  · have hzi : decide (4000 < (z : Int) + (z2 : Int)) = true := by simp; omega
    have CA := alive_any (HM.out.1.below HB1.out)
    clear hok hok2
    go_wp2_with fail
    refine CA.mono ?_
    rintro e w2 ⟨rfl, hb2⟩
    go_wp2
    go_ret
    exact ⟨rfl, HB1.out.trans (hb2.mono HB1.out.size)⟩
  have hzi : decide (4000 < (z : Int) + (z2 : Int)) = false := by simp; omega
  have hwt : wtT xs + wtT ys ≤ 4000 := by
    have h1 := hok (by omega)
    have h2 : (xs.map ByteArray.size).sum = (xs.map (·.size)).sum := rfl
    have h3 := hok2 (by omega)
    have h4 : (ys.map ByteArray.size).sum = (ys.map (·.size)).sum := rfl
    unfold wtT; omega
  have HWT := Lib.hid hwt
  clear hok hok2 hwt
  have CO := of_any (HM.out.2.1.below HB1.out) HB1.out.size (by have := HN.out.1; omega)
  go_wp2_with fail
  refine CO.mono ?_
  clear CO
  rintro e w2 ⟨lv, rfl, ho, hb2⟩
  have hB2 := HB1.out.trans (hb2.mono HB1.out.size)
  have CP := parsed_any (xs := xs) (HM.out.1.below hB2) (by have := HWT.out; omega) ho hb2
  have H2 := Lib.hid hB2
  clear ho hb2 hB2
  go_wp2_with fail
  refine CP.mono ?_
  clear CP
  rintro e w3 ⟨⟨O, F1, rb, lv2, bv, dv, rfl, hr, hO, hF⟩, hb3⟩
  have hB3 := H2.out.trans (hb3.mono H2.out.size)
  obtain ⟨BA, bc, rfl⟩ := hr.bform
  obtain ⟨DA, dc, rfl⟩ := hr.dform
  have hjl := joins_lines xs ys
  have hbl := step_count (linesOf xs)
  rw [linesOf_length, HN.out.1] at hbl
  have hdl : (diagsOf (linesOf xs)).length ≤ 3 * 4000 := by
    have h1 := diags_count (linesOf xs).length (linesOf xs) (Nat.le_refl _)
    have h2 := linesOf_wt xs
    have := HWT.out
    omega
  obtain ⟨bs, hbs⟩ : ∃ bs, blocksOf (linesOf xs) = bs := ⟨_, rfl⟩
  obtain ⟨ds, hds⟩ : ∃ ds, diagsOf (linesOf xs) = ds := ⟨_, rfl⟩
  rw [hbs] at hr hbl hjl ⊢
  rw [hds] at hr hdl hjl ⊢
  have H3 := Lib.hid (And.intro hr hB3)
  have HJ := Lib.hid hjl
  obtain ⟨nb, hnb2⟩ : ∃ nb, bs.length = nb := ⟨_, rfl⟩
  obtain ⟨nd, hnd2⟩ : ∃ nd, ds.length = nd := ⟨_, rfl⟩
  rw [hnb2] at hbl ⊢
  rw [hnd2] at hdl ⊢
  have HNB := Lib.hid (And.intro hnb2 hnd2)
  clear hr hb3 hB3 hjl hbs hds hnb2 hnd2
  go_wp2
  go_loopg [7] nd (fun q vi wr => ∃ j : Nat, j + q = nd ∧ vi = .int .i64 (j : Int) ∧ Hid ((∀ (i : Nat) x, i < j → ds[i]? = some x → x.fault ≠ 4) ∧ Below w3.heap.size w3 wr))
  case atStart => exact ⟨0, by omega, rfl, fun i x hi => absurd hi (by omega), Below.refl _ _⟩
  case round =>
    obtain ⟨j, hj, rfl, HI⟩ := hrel
    by_cases hlt : j < nd
    · obtain ⟨x, hx⟩ : ∃ x, ds[j]? = some x := ⟨_, List.getElem?_eq_getElem (by have := HNB.out.2; omega)⟩
      have hrw := H3.out.1.below HI.out.2
      obtain ⟨g, rfl, _, d0, d1, d2, d3⟩ := hrw.dg_at hx
      have HX := Lib.hid hx
      clear hrw hx
      by_cases hf4 : x.fault = 4
      · have q1 : decide ((x.fault : Int) = 4) = true := decide_eq_true (by omega)
        have q2 : ((x.fault : Int) == 4) = true := by simp; omega
        have q3 : (x.fault : Int) = 4 := by omega
        go_wp2
        go_ret
        exact ⟨rfl, H3.out.2.trans (HI.out.2.mono H3.out.2.size)⟩
      · have q1 : decide ((x.fault : Int) = 4) = false := decide_eq_false (by omega)
        have q2 : ((x.fault : Int) == 4) = false := by simp; omega
        have q3 : ¬ (x.fault : Int) = 4 := by omega
        have HX4 := Lib.hid hf4
        clear hf4
        go_wp2
        go_roundg (gk - 1)
        case measure => omega
        case rel => exact ⟨j + 1, by omega, by go_num, fun i y hi hy => by
          by_cases hij : i < j
          · exact HI.out.1 i y hij hy
          · obtain rfl : i = j := by omega
            have := HX.out.symm.trans hy
            cases this
            exact HX4.out, HI.out.2⟩
    · obtain rfl : j = nd := by omega
      have hno : ∀ d ∈ ds, d.fault ≠ 4 := fun d hd => by
        obtain ⟨i, hi, e⟩ := List.getElem_of_mem hd
        exact HI.out.1 i d (by have := HNB.out.2; omega) (by rw [List.getElem?_eq_getElem hi, e])
      have hjl := HJ.out hno
      have HJ2 := Lib.hid hjl
      have hB4 : Below w.heap.size w wr := H3.out.2.trans (HI.out.2.mono H3.out.2.size)
      have H4 := Lib.hid (And.intro hB4 (H3.out.1.below HI.out.2))
      clear hno hjl hB4
      obtain ⟨i0, hi0, hz0, hz1, hz2⟩ := info_parts strs_info
      have hc1 : ∀ (j : Nat) u, (xs.map Value.string)[j]? = some u → ∃ ad, A = some ad ∧ wr.cell? (ad.add j) = some u := fun j u hu => by
        obtain ⟨s, hs, rfl⟩ := List.getElem?_map .. ▸ hu |> Option.map_eq_some_iff.1
        obtain ⟨b, off, h1, h2, h3⟩ := HF.out.1 j s hs
        exact ⟨_, h1, by rw [addr_addN]; exact (H4.out.1.cell (p := ⟨b, off + j, none⟩) h2).trans h3⟩
      go_wp2_with (at_builtin; refine wpList_append_all (by rfl) _ _ _ (by rfl) wr.heap.size 9 i0 _ 1 16 Tryz.underlying22 hi0 hz0 hz1 hz2 rfl (by omega) (.slice none 0 0) 0 [] (by rfl) (World.ownsRow_nil _ _ _ _) A n c (xs.map Value.string) (by rfl) (by rw [List.length_map, HN.out.1, Nat.mul_one]) hc1 (fun u hu => strs_one hu) n (Nat.zero_add n) (xs.map Value.string) (by rfl) (by unfold maxLen; omega) (by omega) (Nat.le_refl _) ?_)
      intro TA tcap w5 hown5 hg5 hat5
      have hb5 : Below wr.heap.size wr w5 := (Below.refl _ _).grown hg5 (Nat.le_refl _) (fun q hq => by cases hq)
      have H5 := Lib.hid (And.intro hown5 hb5)
      have hs5 := hb5.size
      clear hown5 hg5 hat5 hb5 hc1
      go_wp2_with (at_builtin; refine wpList_app1 _ rfl _ _ 22 rfl wr.heap.size 9 (.string ⟨#[]⟩) 16 Tryz.underlying22 strs_info rfl _ n _ rfl (H5.out.1.alloc _) _ 1 (.string ⟨#[]⟩) rfl (by simp) rfl (by unfold maxLen; omega) (by omega) (by simp; omega) ?_)
      intro v6 w6 hown6 hg6
      have hb6 : Below wr.heap.size wr w6 := (H5.out.2.alloc hs5 _).grown hg6 (by simp; omega) (fun q hq => by obtain ⟨_, _, _, hb⟩ := owns_form H5.out.1; exact (hb q hq).1)
      obtain ⟨SA, sc, rfl, _⟩ := owns_form hown6
      have hs6 := hb6.size
      have hc2 : ∀ (j : Nat) u, (ys.map Value.string)[j]? = some u → ∃ ad, A2 = some ad ∧ w6.cell? (ad.add j) = some u := fun j u hu => by
        obtain ⟨s, hs, rfl⟩ := List.getElem?_map .. ▸ hu |> Option.map_eq_some_iff.1
        obtain ⟨b, off, h1, h2, h3⟩ := HF.out.2 j s hs
        exact ⟨_, h1, by rw [addr_addN]; exact ((H4.out.1.trans (hb6.mono H4.out.1.size)).cell (p := ⟨b, off + j, none⟩) h2).trans h3⟩
      have H6 := Lib.hid (And.intro hown6 hb6)
      clear hown6 hg6 hb6
      go_wp2_with (at_builtin; refine wpList_append_all (by rfl) _ _ _ (by rfl) wr.heap.size 9 i0 _ 1 16 Tryz.underlying22 hi0 hz0 hz1 hz2 rfl (by omega) (.slice SA (n + 1) sc) (n + 1) (xs.map Value.string ++ [.string ⟨#[]⟩]) (by rfl) H6.out.1 A2 k c2 (ys.map Value.string) (by rfl) (by rw [List.length_map, HN.out.2, Nat.mul_one]) hc2 (fun u hu => strs_one hu) (n + 1 + k) rfl ((xs ++ [(⟨#[]⟩ : ByteArray)] ++ ys).map Value.string) (by simp) (by unfold maxLen; omega) (by omega) hs6 ?_)
      intro UA ucap w7 hown7 hg7 hat7
      have hb7 : Below wr.heap.size wr w7 := H6.out.2.grown hg7 hs6 (fun q hq => by obtain ⟨_, _, _, hb⟩ := owns_form H6.out.1; exact (hb q hq).1)
      have hlz : (xs ++ [(⟨#[]⟩ : ByteArray)] ++ ys).length = n + 1 + k := by
        rw [List.length_append, List.length_append, HN.out.1, HN.out.2]
        rfl
      have hR7 : Rd w7 w7.heap.size (.slice UA (n + 1 + k) ucap) ((xs ++ [(⟨#[]⟩ : ByteArray)] ++ ys).map Value.string) := by have e := own_rd hown7; simpa using e
      have hB7 := H4.out.1.trans (hb7.mono H4.out.1.size)
      have CO := of_any hR7 (Nat.le_refl _) (by omega)
      have H7 := Lib.hid (And.intro hB7 hb7)
      have HLZ := Lib.hid hlz
      clear hown7 hg7 hat7 hb7 hR7 hB7 hc2 hlz
      go_wp2_with fail
      refine CO.mono ?_
      clear CO
      rintro e w8 ⟨lv8, rfl, ho8, hb8⟩
      have hB8 := H7.out.1.trans (hb8.mono H7.out.1.size)
      have hbr8 := H7.out.2.trans (hb8.mono H7.out.2.size)
      rw [linesOf_length, HLZ.out] at ho8
      obtain ⟨g8, cap8, rfl, hcap, hcm⟩ : ∃ g8 cap8, lv8 = .slice (some ⟨g8, 0, none⟩) (n + 1 + k) cap8 ∧ n + 1 + k ≤ cap8 ∧ cap8 ≤ 9223372036854775807 := by
        rcases ho8.2 with ⟨_, h0⟩ | ⟨g8, cap8, cur, hv, _, _, hle, hmx, _⟩
        · omega
        · exact ⟨g8, cap8, hv, hle, hmx⟩
      have eL : linesOf (xs ++ [(⟨#[]⟩ : ByteArray)] ++ ys) = linesOf xs ++ lnsFrom (1 + xs.length) ([(⟨#[]⟩ : ByteArray)] ++ ys) := by
        unfold linesOf
        rw [List.append_assoc, lnsFrom_append]
      have H8 := Lib.hid (And.intro ho8 (And.intro hB8 (And.intro hbr8 eL)))
      clear ho8 hB8 hbr8 eL hb8
      obtain ⟨j0, hj0, hy0, hy1, hy2⟩ := info_parts line_info
      have hoL : w8.ownsRow w7.heap.size 62 3 (.slice (some ⟨g8, 0, none⟩) (n + 1 + k) cap8) (n + 1 + k) (rowL (linesOf xs ++ lnsFrom (1 + xs.length) ([(⟨#[]⟩ : ByteArray)] ++ ys))) := by
        have h := H8.out.1
        rwa [H8.out.2.2.2] at h
      have hll : (linesOf xs).length = n := by rw [linesOf_length]; exact HN.out.1
      have hlt : (lnsFrom (1 + xs.length) ([(⟨#[]⟩ : ByteArray)] ++ ys)).length = 1 + k := by
        rw [lnsFrom_length, List.length_append, HN.out.2]
        rfl
      obtain ⟨T, hT⟩ : ∃ T, lnsFrom (1 + xs.length) ([(⟨#[]⟩ : ByteArray)] ++ ys) = T := ⟨_, rfl⟩
      rw [hT] at hoL hlt
      have hdr8 : Rd w8 w8.heap.size (.slice none 0 0) [] := Rd.nil _ _
      clear hdr8
      go_wp2_with (at_builtin; refine wpList_append_all (by rfl) _ _ _ (by rfl) w8.heap.size 62 j0 _ 3 40 Tryz.underlying29 hj0 hy0 hy1 hy2 rfl (by omega) (.slice none 0 0) 0 [] (by rfl) (World.ownsRow_nil _ _ _ _) _ _ _ (rowL T) (by rfl) (by rw [rowL_length, hlt]; omega) (rowL_news hoL _ (by rw [hll])) (fun u hu => rowL_one hu) (1 + k) (by omega) (rowL T) (by rfl) (by unfold maxLen; omega) (by omega) (Nat.le_refl _) ?_)
      intro LA lcap w9 hown9 hg9 hat9
      have hb9 : Below w8.heap.size w8 w9 := (Below.refl _ _).grown hg9 (Nat.le_refl _) (fun q hq => by cases hq)
      have hown9' : w9.ownsRow w8.heap.size 62 3 (.slice LA (1 + k) lcap) T.length (rowL T) := by rw [hlt]; exact hown9
      have hB9 := H8.out.2.1.trans (hb9.mono H8.out.2.1.size)
      have hwT : wtX T ≤ 100000 := by
        rw [← hT, lnsFrom_wt]
        have h1 := HWT.out
        have h2 := HN.out
        unfold wtT at h1
        simp only [List.map_append, List.map_cons, List.map_nil, List.sum_append, List.sum_cons, List.sum_nil, List.length_append, List.length_cons, List.length_nil]
        have h3 : (⟨#[]⟩ : ByteArray).size = 0 := rfl
        omega
      have CP := bparse_any (lines_own hown9') (fun q hq => hq.2) (HM.out.1.below hB9) hwT
      have H9 := Lib.hid (And.intro hB9 (H8.out.2.2.1.trans (hb9.mono H8.out.2.2.1.size)))
      have H9b := Lib.hid hb9
      have HTT := Lib.hid (And.intro hT (And.intro hll hlt))
      clear hown9 hg9 hat9 hown9' hb9 hB9 hoL hT hll hlt
      go_wp2_with fail
      refine CP.mono ?_
      clear CP
      rintro e w10 ⟨O2, F2, rb2, bv2, dv2, rfl, hr2, hO2, hF2, hb10⟩
      obtain ⟨BA2, bc2, rfl⟩ := hr2.bform
      obtain ⟨DA2, dc2, rfl⟩ := hr2.dform
      have hb810 : Below w8.heap.size w8 w10 := H9b.out.trans (hb10.mono H9b.out.size)
      have ho10 : w10.ownsRow w7.heap.size 62 3 (.slice (some ⟨g8, 0, none⟩) (n + 1 + k) cap8) (n + 1 + k) (rowL (linesOf (xs ++ [(⟨#[]⟩ : ByteArray)] ++ ys))) := (Chg.below hb810 (fun _ => False)).owns H8.out.1 (fun _ _ h => h)
      have hB10 := H9.out.1.trans (hb10.mono H9.out.1.size)
      have hbr10 := H9.out.2.trans (hb10.mono H9.out.2.size)
      have hwZ : wtX (linesOf (xs ++ [(⟨#[]⟩ : ByteArray)] ++ ys)) ≤ 100000 := by
        rw [linesOf_wt]
        have h1 := HWT.out
        unfold wtT at h1 ⊢
        simp only [List.map_append, List.map_cons, List.map_nil, List.sum_append, List.sum_cons, List.sum_nil, List.length_append, List.length_cons, List.length_nil]
        have h3 : (⟨#[]⟩ : ByteArray).size = 0 := rfl
        omega
      have hnZ := linesOf_length (xs ++ [(⟨#[]⟩ : ByteArray)] ++ ys)
      rw [HLZ.out] at hnZ
      have ho10' : w10.ownsRow w7.heap.size 62 3 (.slice (some ⟨g8, 0, none⟩) (n + 1 + k) cap8) (linesOf (xs ++ [(⟨#[]⟩ : ByteArray)] ++ ys)).length (rowL (linesOf (xs ++ [(⟨#[]⟩ : ByteArray)] ++ ys))) := by rw [hnZ]; exact ho10
      have CP := bparse_any (lines_own ho10') (fun q hq => hq.2) (HM.out.1.below hB10) hwZ
      have hsm := blocks_sm _ _ (Nat.le_refl _) hwZ
      have hbz := step_count (linesOf (xs ++ [(⟨#[]⟩ : ByteArray)] ++ ys))
      have hdz := diags_count _ (linesOf (xs ++ [(⟨#[]⟩ : ByteArray)] ++ ys)) (Nat.le_refl _)
      rw [hnZ] at hbz
      have hJ := HJ2.out
      rw [HTT.out.1] at hJ
      rw [hJ.1] at CP hsm hbz
      rw [hJ.2] at CP hdz
      obtain ⟨bs2, hbs2⟩ : ∃ q, blocksOf T = q := ⟨_, rfl⟩
      obtain ⟨ds2, hds2⟩ : ∃ q, diagsOf T = q := ⟨_, rfl⟩
      rw [hbs2] at CP hsm hbz hr2 ⊢
      rw [hds2] at CP hdz hr2 ⊢
      obtain ⟨nb2, hnb2⟩ : ∃ q, bs2.length = q := ⟨_, rfl⟩
      obtain ⟨nd2, hnd2⟩ : ∃ q, ds2.length = q := ⟨_, rfl⟩
      rw [hnb2] at hr2 ⊢
      rw [hnd2] at hr2 ⊢
      rw [List.length_append, HNB.out.1, hnb2] at hbz
      rw [List.length_append, HNB.out.2, hnd2] at hdz
      have hdz2 : j + nd2 ≤ 300000 := by omega
      have HS := Lib.hid (And.intro hsm (And.intro hnb2 hnd2))
      have hrx := H4.out.2.below hbr10
      have HX := Lib.hid (And.intro hrx (And.intro hr2 hB10))
      clear hb810 ho10 ho10' hB10 hbr10 hwZ hnZ hJ hbs2 hds2 hnb2 hnd2 hsm hdz hrx hr2 hb10 hO2 hF2 hwT
      go_wp2_with fail
      refine CP.mono ?_
      clear CP
      rintro e w11 ⟨O3, F3, rb3, bv3, dv3, rfl, hr3, hO3, hF3, hb11⟩
      obtain ⟨BA3, bc3, rfl⟩ := hr3.bform
      obtain ⟨DA3, dc3, rfl⟩ := hr3.dform
      have lz : (bs ++ bs2).length = nb + nb2 := by rw [List.length_append, HNB.out.1, HS.out.2.1]
      have ld : (ds ++ ds2).length = j + nd2 := by rw [List.length_append, HNB.out.2, HS.out.2.2]
      rw [lz] at hr3 ⊢
      rw [ld] at hr3 ⊢
      have hrx := HX.out.1.below hb11
      have hry := HX.out.2.1.below hb11
      have hB11 := HX.out.2.2.trans (hb11.mono HX.out.2.2.size)
      obtain ⟨kx, ex, ox, tx⟩ := hrx.bl
      obtain ⟨ky, ey, oy, ty⟩ := hry.bl
      obtain ⟨kz, ez, oz, tz⟩ := hr3.bl
      rw [HNB.out.1] at ex ox
      rw [HS.out.2.1] at ey oy
      rw [lz] at ez oz
      have dx := hrx.dg
      have dy := hry.dg
      have dz := hr3.dg
      rw [HNB.out.2] at dx
      rw [HS.out.2.2] at dy
      rw [ld] at dz
      have HD := Lib.hid (And.intro dx (And.intro dy dz))
      have HO := Lib.hid (And.intro ox (And.intro oy oz))
      have HE := Lib.hid (And.intro ex (And.intro ey ez))
      have tx' : TreesAt w11 (· < w11.heap.size) bs kx := TreesAt.chg tx (Chg.refl w11 (fun _ => False)) (fun q hq => hrx.ltF q hq) (fun _ _ h => h)
      have ty' : TreesAt w11 (· < w11.heap.size) bs2 ky := TreesAt.chg ty (Chg.refl w11 (fun _ => False)) (fun q hq => hry.ltF q hq) (fun _ _ h => h)
      have tz' : TreesAt w11 (· < w11.heap.size) (bs ++ bs2) kz := TreesAt.chg tz (Chg.refl w11 (fun _ => False)) (fun q hq => hr3.ltF q hq) (fun _ _ h => h)
      have HT3 := Lib.hid (And.intro tx' (And.intro ty' tz'))
      have HB11 := Lib.hid hB11
      have HL := Lib.hid (And.intro lz ld)
      clear hrx hry hr3 hB11 ox oy oz tx ty tz tx' ty' tz' ex ey ez dx dy dz lz ld hb11 hO3 hF3
      obtain ⟨p0, hp0, hp1, hp2, hp3⟩ := info_parts block_info
      obtain ⟨r0, hr0, hr1, hr2, hr3⟩ := info_parts diag_info
      go_wp2_with (at_builtin; refine wpList_append_all (by rfl) _ _ _ (by rfl) w11.heap.size 35 p0 _ 9 128 Tryz.underlying25 hp0 hp1 hp2 hp3 rfl (by omega) (.slice none 0 0) 0 [] (by rfl) (World.ownsRow_nil _ _ _ _) BA nb bc (rowBl bs kx) (by rfl) (by rw [rowBl_length (HE.out.1.trans HNB.out.1.symm), HNB.out.1]) (own_cells HO.out.1) (rowBl_one HT3.out.1) nb (Nat.zero_add nb) (rowBl bs kx) (by rfl) (by unfold maxLen; omega) (by omega) (Nat.le_refl _) ?_)
      intro XA xc w12 hown12 hg12 hat12
      have hb12 : Below w11.heap.size w11 w12 := (Below.refl _ _).grown hg12 (Nat.le_refl _) (fun q hq => by cases hq)
      have hs12 := hb12.size
      have oy := (Chg.below hb12 (fun _ => False)).owns HO.out.2.1 (fun _ _ h => h)
      have H12 := Lib.hid (And.intro hown12 (And.intro hb12 oy))
      clear hown12 hg12 hat12 hb12 oy
      go_wp2_with (at_builtin; refine wpList_append_all (by rfl) _ _ _ (by rfl) w11.heap.size 35 p0 _ 9 128 Tryz.underlying25 hp0 hp1 hp2 hp3 rfl (by omega) (.slice XA nb xc) nb (rowBl bs kx) (by rfl) H12.out.1 BA2 nb2 bc2 (rowBl bs2 ky) (by rfl) (by rw [rowBl_length (HE.out.2.1.trans HS.out.2.1.symm), HS.out.2.1]) (own_cells H12.out.2.2) (rowBl_one HT3.out.2.1) (nb + nb2) rfl (rowBl (bs ++ bs2) (kx ++ ky)) (rowBl_append bs2 ky (HE.out.1.trans HNB.out.1.symm)).symm (by unfold maxLen; omega) (by omega) hs12 ?_)
      intro YA yc w13 hown13 hg13 hat13
      have hb13 : Below w11.heap.size w11 w13 := H12.out.2.1.grown hg13 hs12 (fun q hq => by obtain ⟨_, _, _, hb⟩ := owns_form H12.out.1; exact (hb q hq).1)
      have hs13 := hb13.size
      have hc13 := Chg.below hb13 (fun _ => False)
      have oz := hc13.owns HO.out.2.2 (fun _ _ h => h)
      have tz := HT3.out.2.2.chg hc13 (G := (· < w13.heap.size)) (fun q hq => Nat.lt_of_lt_of_le hq hs13) (fun _ _ h => h)
      have txy := (HT3.out.1.append HT3.out.2.1 (HE.out.1.trans HNB.out.1.symm)).chg hc13 (G := (· < w13.heap.size)) (fun q hq => Nat.lt_of_lt_of_le hq hs13) (fun _ _ h => h)
      have hz1' : BlocksAt w13 w13.heap.size (.slice BA3 (nb + nb2) bc3) (bs ++ bs2) := BlocksAt.own (by rw [HL.out.1]; exact oz) (HE.out.2.2.trans HL.out.1.symm) tz (Nat.le_refl _)
      have hz2' : BlocksAt w13 w13.heap.size (.slice YA (nb + nb2) yc) (bs ++ bs2) := BlocksAt.own (by rw [HL.out.1]; exact hown13) (by rw [List.length_append, HE.out.1, HE.out.2.1, HL.out.1]) txy (Nat.le_refl _)
      have CS := blocks_alike HS.out.1 (by rw [HL.out.1]; omega) hz1' hz2' (Nat.le_refl _)
      have H13 := Lib.hid hb13
      clear hown13 hg13 hat13 hb13 hc13 oz tz txy hz1' hz2'
      go_wp2_with fail
      refine CS.mono ?_
      clear CS
      rintro e w14 ⟨rfl, hb14⟩
      have hb14' := H13.out.trans (hb14.mono hs13)
      have hs14 := hb14'.size
      have dx := (Chg.below hb14' (fun _ => False)).owns HD.out.1 (fun _ _ h => h)
      have dy := (Chg.below hb14' (fun _ => False)).owns HD.out.2.1 (fun _ _ h => h)
      have dz := (Chg.below hb14' (fun _ => False)).owns HD.out.2.2 (fun _ _ h => h)
      have H14 := Lib.hid (And.intro hb14' (And.intro dx (And.intro dy dz)))
      have HLD := Lib.hid (And.intro (rowD_length ds) (rowD_length ds2))
      clear hb14 hb14' dx dy dz
      go_wp2_with (at_builtin; refine wpList_append_all (by rfl) _ _ _ (by rfl) w14.heap.size 38 r0 _ 4 48 Tryz.underlying26 hr0 hr1 hr2 hr3 rfl (by omega) (.slice none 0 0) 0 [] (by rfl) (World.ownsRow_nil _ _ _ _) DA j dc (rowD ds) (by rfl) (by rw [HLD.out.1, HNB.out.2]) (own_cells H14.out.2.1) (fun u hu => rowD_one hu) j (Nat.zero_add j) (rowD ds) (by rfl) (by unfold maxLen; omega) (by omega) (Nat.le_refl _) ?_)
      intro ZA zc w15 hown15 hg15 hat15
      have hb15 : Below w14.heap.size w14 w15 := (Below.refl _ _).grown hg15 (Nat.le_refl _) (fun q hq => by cases hq)
      have hs15 := hb15.size
      have dy := (Chg.below hb15 (fun _ => False)).owns H14.out.2.2.1 (fun _ _ h => h)
      have H15 := Lib.hid (And.intro hown15 (And.intro hb15 dy))
      clear hown15 hg15 hat15 hb15 dy
      go_wp2_with (at_builtin; refine wpList_append_all (by rfl) _ _ _ (by rfl) w14.heap.size 38 r0 _ 4 48 Tryz.underlying26 hr0 hr1 hr2 hr3 rfl (by omega) (.slice ZA j zc) j (rowD ds) (by rfl) H15.out.1 DA2 nd2 dc2 (rowD ds2) (by rfl) (by rw [HLD.out.2, HS.out.2.2]) (own_cells H15.out.2.2) (fun u hu => rowD_one hu) (j + nd2) rfl (rowD (ds ++ ds2)) (rowD_append ds ds2).symm (by unfold maxLen; omega) (by omega) hs15 ?_)
      intro VA vc w16 hown16 hg16 hat16
      have hb16 : Below w14.heap.size w14 w16 := H15.out.2.1.grown hg16 hs15 (fun q hq => by obtain ⟨_, _, _, hb⟩ := owns_form H15.out.1; exact (hb q hq).1)
      have dz := (Chg.below hb16 (fun _ => False)).owns H14.out.2.2.2 (fun _ _ h => h)
      have q1 : DiagsAt w16 w16.heap.size (.slice DA3 (j + nd2) dc3) (ds ++ ds2) := DiagsAt.own (by rw [HL.out.2]; exact dz) (Nat.le_refl _)
      have q2 : DiagsAt w16 w16.heap.size (.slice VA (j + nd2) vc) (ds ++ ds2) := DiagsAt.own (by rw [HL.out.2]; exact hown16) (Nat.le_refl _)
      have CD := diags_alike (by rw [HL.out.2]; omega) q1 q2 (Nat.le_refl _)
      have hB16 := HB11.out.trans ((H14.out.1.trans (hb16.mono hs14)).mono HB11.out.size)
      have H16 := Lib.hid hB16
      clear hown16 hg16 hat16 hb16 dz q1 q2 hB16
      go_wp2_with fail
      refine CD.mono ?_
      clear CD
      rintro e w17 ⟨rfl, hb17⟩
      have H17 := Lib.hid (H16.out.trans (hb17.mono H16.out.size))
      clear hb17
      go_wp2
      go_ret
      exact ⟨rfl, H17.out⟩
end Go.Proofs.YtcjmfjccjhdgjaaGreatDoor
namespace Go.Proofs.YtcjmfjccjhdgjaaGreatDoor
open Go.ChangeShapes Go.WideShapes Go.RowKit Go.Bd
theorem str_cells : Tryz.prog.cellsOf 9 = 1 := by kernel_rfl
theorem str_bytes : Tryz.prog.bytesOf 9 = 16 := by kernel_rfl
theorem weights_all {H : Type} {P : Program} {e : TypeId} {n : Nat} {d : DataW H} : ∀ {ds : List (DataW H)}, d ∈ ds → n ∈ d.weights P e → n ∈ DataW.weightsAll P e ds
  | x :: ds, hd, hn => by
    rw [DataW.weightsAll]
    rcases List.mem_cons.1 hd with rfl | hd
    · exact List.mem_append_left _ hn
    · exact List.mem_append_right _ (weights_all hd hn)
theorem addr_lit {w : World} {a : Addr} {v : Value} (h : w.cell? (a.add 0) = some v) : ∃ b off, a = ⟨b, off, none⟩ ∧ b < w.heap.size := by
  obtain ⟨b, off, spot⟩ := a
  have e : (⟨b, off, spot⟩ : Addr).add 0 = ⟨b, off, spot⟩ := by simp [Addr.add]
  rw [e] at h
  refine ⟨b, off, ?_, World.block_lt_of_cell? w _ h⟩
  cases spot with
  | none => rfl
  | some s =>
    exfalso
    simp only [World.cell?] at h
    split at h <;> simp at h
section
variable {H : Type} {enc : TypeId × Value → H} {w : World} {sp : Nat → Bool} {held : Bool}
theorem rd_of {a : Addr} {len cap : Nat} {V : Nat → Value} (hl : len ≤ cap) (h : ∀ i, i < len → w.cell? (a.add i) = some (V i)) : Rd w w.heap.size (.slice (some a) len cap) ((List.range len).map V) := by
  refine ⟨some a, cap, by simp, by simpa using hl, fun hn => ?_⟩
  have hn' : 0 < len := by simpa using hn
  obtain ⟨b, off, rfl, hb⟩ := addr_lit (h 0 hn')
  refine ⟨b, off, rfl, hb, fun j u hu => ?_⟩
  have hj : j < len := by have := (List.getElem?_eq_some_iff.1 hu).1; simpa using this
  rw [List.getElem?_map, List.getElem?_range hj] at hu
  have := h j hj
  rw [Addr.add_lit] at this
  rw [this]; exact hu
theorem open_texts {fuel : Nat} {cs : List Value} {x : DataW H × List MemPlace} (h : DataW.trod enc Tryz.prog w 0 sp held fuel 22 cs = some x) :
    ∃ (v : Value) (xs : List ByteArray), cs = [v] ∧ Rd w w.heap.size v (xs.map Value.string) ∧ ((∀ n ∈ x.1.weights Tryz.prog 22, n ≤ reachBytes) → xs.length ≤ 140737488355328 ∧ ∀ s ∈ xs, s.size ≤ 140737488355328) := by
  rcases Deep.open_slice1 (e := 9) Tryz.underlying22 str_cells h with ⟨rfl, rfl⟩ | ⟨a, len, cap, m, n, V, D, Pl, rfl, _, hl, _, hmm, rfl, hx⟩
  · exact ⟨_, [], rfl, Rd.nil _ _, fun _ => ⟨by decide, fun _ h => by cases h⟩⟩
  · have hlm : len ≤ m := by rw [hmm]; split <;> omega
    have each : ∀ i, i < len → ∃ s : ByteArray, V i = .string s ∧ D i = .lit (.string s.data.toList) := by
      intro i hi
      obtain ⟨s, h1, h2, _⟩ := DataW.trod_string Tryz.underlying9 (hx i (by omega)).2
      simp only [List.cons.injEq, and_true] at h1
      simp only [Prod.mk.injEq] at h2
      exact ⟨s, h1, h2.1⟩
    obtain ⟨S, hS⟩ := Deep.choose_lt each
    refine ⟨_, (List.range len).map S, rfl, ?_, fun hw => ⟨?_, fun s hs => ?_⟩⟩
    · have hr := rd_of (w := w) (V := fun i => .string (S i)) hl (fun i hi => by rw [(hx i (by omega)).1, (hS i hi).1])
      rw [List.map_map]
      exact hr
    · have := hw _ (by simp only [DataW.weights, Tryz.underlying22]; exact List.mem_cons_self ..)
      simp only [List.length_map, List.length_range, str_bytes] at this
      unfold reachBytes at this
      simp only [List.length_map, List.length_range]
      omega
    · obtain ⟨i, hi, rfl⟩ := List.mem_map.1 hs
      have hi' : i < len := by simpa using hi
      have := hw (S i).data.toList.length (by
        simp only [DataW.weights, Tryz.underlying22]
        refine List.mem_cons_of_mem _ (List.mem_append_left _ (weights_all (List.mem_map.2 ⟨i, hi, (hS i hi').2⟩) ?_))
        simp [DataW.weights])
      unfold reachBytes at this
      rw [size_list]; omega
end
set_option maxRecDepth 100000 in
theorem open_strs {H : Type} {enc : TypeId × Value → H} {W : World} {base : Nat} {sp : Nat → Bool} {hd : Bool} {v : Value} {d : DataW H} {p : List MemPlace}
    (hv : Value.okWide Tryz.prog W .any base 22 v) (h : DataW.Trod enc Tryz.prog W 0 sp hd 22 v d p) :
    ∃ xs : List ByteArray, Rd W W.heap.size v (xs.map Value.string) ∧ ((∀ n ∈ d.weights Tryz.prog 22, n ≤ reachBytes) → xs.length ≤ 140737488355328 ∧ ∀ s ∈ xs, s.size ≤ 140737488355328) := by
  obtain ⟨A, l, c, rfl⟩ := okWide_slice Tryz.underlying22 hv
  obtain ⟨fuel, hf⟩ := h
  obtain ⟨v, ls, h1, h2, h3⟩ := open_texts hf
  simp only [Value.cells, List.cons.injEq, and_true] at h1
  subst h1
  exact ⟨ls, h2, h3⟩
end Go.Proofs.YtcjmfjccjhdgjaaGreatDoor
namespace Go.Proofs.YtcjmfjccjhdgjaaGreatDoor.blocksJoins
open Go.ChangeShapes Go.WideShapes Go.ChangeAt Go.RowKit Go.Bd Go.WideMaps Go.WideElems
open Go.ChangeMaps (open_string shut_string)
set_option maxRecDepth 100000 in
theorem contract (H : Type) (enc : TypeId × Value → H) (W : World) (base : Nat) (args : Array Value) (ds gs : List (DataW H)) (before : List MemPlace)
    (hval : ∀ (j : Nat) t v, Tryz.f4.params[j]? = some t → args[j]? = some v → Value.okWide Tryz.prog W .any base t v)
    (hW : DataW.Whole enc Tryz.prog Tryz.f4.params.toList Rows.blocksJoinsSpec.vars false W args.toList ds gs before) (hsh : W.ShapedOpen Tryz.prog)
    (hsz : (DataW.weightsEach Tryz.prog (Tryz.f4.params.toList ++ (OpenSpec.ofChange Rows.blocksJoinsSpec).bare.plain.varTypes Tryz.prog) (ds ++ gs)).all (· ≤ reachBytes) = true) (hU : Lib.Utf8Tabs 1 2 W) :
    Calls Tryz.prog 4 args W fun e W' => ∃ v, e = .returned v ∧ Rows.blocksJoinsSpec.post enc Tryz.prog Tryz.f4 false true false false W args v W' := by
  obtain ⟨m, hm⟩ := maxLen_cell W hsh
  have hW' := hW
  obtain ⟨p, q, hA0, hV, rfl, hfz, hnd⟩ := hW
  have hA : DataW.TrodAll enc Tryz.prog W 0 (fun _ => true) true Tryz.f4.params.toList args.toList ds p := hA0
  rw [Tryz.params4] at hA hval hsz
  obtain ⟨v0, vs0, d0, ds0, p0, q0, hargs, rfl, rfl, h0, r0⟩ := trodAll_cons hA
  obtain ⟨v1, vs1, d1, ds1, p1, q1, rfl, rfl, rfl, h1, r1⟩ := trodAll_cons r0
  obtain ⟨rfl, rfl, rfl⟩ := trodAll_nil r1
  obtain rfl : args = #[v0, v1] := by cases args; simp_all
  obtain ⟨rfl, rfl⟩ := trodVars_none hV
  obtain ⟨xs0, hR0, bs0⟩ := open_strs (hval 0 22 v0 rfl rfl) h0
  have b0 := bs0 (fun n hn => by have := List.all_eq_true.1 hsz n (DataW.weights_mem_each (j := 0) rfl rfl n hn); simpa using this)
  obtain ⟨xs1, hR1, bs1⟩ := open_strs (hval 1 22 v1 rfl rfl) h1
  have b1 := bs1 (fun n hn => by have := List.all_eq_true.1 hsz n (DataW.weights_mem_each (j := 1) rfl rfl n hn); simpa using this)
  refine (blocksJoins_true v0 xs0 v1 xs1 m W ⟨hm, hU⟩ hR0 b0 hR1 b1).mono fun e W' ⟨he, hg⟩ => ?_
  subst he
  exact law_post hW' hg laidOut (by rw [Tryz.params4]; intro t ht; simp at ht; subst ht; exact ⟨by kernel_rfl, of_decide_eq_true (by kernel_rfl)⟩) rfl rfl (by kernel_rfl) Tryz.underlying4
theorem laid_met (os : Os) : laidMet Tryz.prog Rows.blocksJoinsRow.laid ((laidWorld os).forCall (fun _ _ => 0) ⟨#[], #[.slice none 0 0, .slice none 0 0], []⟩).memory :=
  laidMet_of_run' 8 (by kernel_rfl) (by kernel_rfl)
theorem reads (os : Os) {H : Type} (enc : TypeId × Value → H) : ∃ places, DataW.whole enc Tryz.prog ((laidWorld os).forCall (fun _ _ => 0) ⟨#[], #[.slice none 0 0, .slice none 0 0], []⟩).memory Tryz.f4.params.toList Rows.blocksJoinsSpec.vars false (#[.slice none 0 0, .slice none 0 0] : Array Value).toList 8 = some ([.nil, .nil], [], places) :=
  ⟨[], by kernel_rfl⟩
set_option maxRecDepth 100000 in
theorem lifted (os : Os) (started : os.Started) (H : Type) (enc : TypeId × Value → H) (F : Stop.Interp) :
    ReturnsInHanded {} Tryz.checked os 4 .any ((OpenSpec.ofChange Rows.blocksJoinsSpec).preRow enc Tryz.prog Tryz.f4 Rows.blocksJoinsRow.domain false Rows.blocksJoinsRow.laid) (((OpenSpec.ofChange Rows.blocksJoinsSpec).at F).post enc Tryz.prog Tryz.f4 false true false false) := by
  obtain ⟨places, hx⟩ := reads os enc
  refine returnsInHanded_of_row (C := Tryz.checked) (s := OpenSpec.ofChange Rows.blocksJoinsSpec) own started (by kernel_rfl) Tryz.func4
    (witness_row_at (enc := enc) (C := Tryz.checked) false (laidWorld os) #[.slice none 0 0, .slice none 0 0] rfl (by kernel_rfl) (by kernel_rfl) (by kernel_rfl)
      (OpenSpec.preRow_of_cond 8 hx (by kernel_rfl) (fun k hk => by cases hk) (by kernel_rfl) (laid_met os))) ?_
  intro W base args ds gs before hval hW _ _ hsz hL hsh _
  have hL' : laidMet Tryz.prog Rows.blocksJoinsRow.laid W := hL
  exact contract H enc W base args ds gs before hval hW hsh hsz (tabs_of hL')
theorem said : Rows.BlocksJoinsSaid :=
  OpenClaim.holds_of_cond 4 Tryz.f4 rfl rfl rfl rfl rfl rfl rfl ⟨rfl, rfl, rfl, rfl, rfl⟩ rfl rfl rfl rfl rfl (by kernel_rfl) Tryz.func4 (by kernel_rfl)
    (of_decide_eq_true (by kernel_rfl)) (by unfold Func.isWrapper; first | (rw [if_pos (by decide +kernel)]; kernel_rfl) | (rw [if_neg (by decide +kernel)]; exact ⟨rfl, rfl⟩))
    (fun os started H enc _ F => by rw [OpenClaim.pre_eq_preRow]; exact lifted os started H enc F)
theorem plain (f : FuncId) (fn : Func) (hf : Tryz.pinned.checked.prog.funcNamed Tryz.f4.name = some f) (hfn : Tryz.pinned.checked.prog.funcs[f]? = some fn) :
    false = Tryz.pinned.checked.prog.looks [] ∧ ∀ (j : Nat) t, fn.params[j]? = some t → Tryz.pinned.checked.prog.wantsStandIn t = false := by
  obtain rfl : f = 4 := Option.some.inj ((show Tryz.prog.funcNamed Tryz.f4.name = some 4 by kernel_rfl).symm.trans hf) |>.symm
  obtain rfl : fn = Tryz.f4 := (Option.some.inj (Tryz.func4.symm.trans hfn)).symm
  refine ⟨by kernel_rfl, fun j t ht => ?_⟩
  rw [Tryz.params4] at ht
  obtain rfl : t = 22 := by simpa using Array.mem_of_getElem? ht
  exact (show Tryz.prog.wantsStandIn 22 = false by kernel_rfl)
theorem card : Rows.BlocksJoinsCardSaid :=
  Claim7.holds_tied_plain_at .later [] _ _ _ _ said (fun _ h => by cases h) (by kernel_rfl) (fun _ h => by cases h) blocksJoins_row_tie rfl ⟨rfl, rfl⟩ (by kernel_rfl) rfl plain (by kernel_rfl)
end Go.Proofs.YtcjmfjccjhdgjaaGreatDoor.blocksJoins
