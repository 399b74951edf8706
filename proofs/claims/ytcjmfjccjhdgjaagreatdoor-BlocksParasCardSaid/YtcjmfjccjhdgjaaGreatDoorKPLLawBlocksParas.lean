/-
  The law BlocksParas: for every input it answers true, and the input reads as it did: the row, and its card. Its conditions: those of the given row alone.
-/
import Derived.BigRegion
import Derived.Deep.Slices
import Derived.ChangeArms
import Derived.WideShapes
import Derived.SizedLaws
import Derived.Test.YtcjmfjccjhdgjaaGreatDoorRows
import Derived.Test.YtcjmfjccjhdgjaaGreatDoorChecked
import Derived.Test.YtcjmfjccjhdgjaaGreatDoorKP6
set_option linter.unusedSimpArgs false
set_option linter.unusedVariables false
namespace Go.Bd
open Go.RowKit
def eTx (x : Int) : ByteArray := if x % 4 = 0 then ⟨#[]⟩ else if x % 4 = 1 then ⟨#[32]⟩ else if x % 4 = 2 then ⟨#[9]⟩ else ⟨#[32, 9, 32]⟩
end Go.Bd
namespace Go.Proofs.YtcjmfjccjhdgjaaGreatDoor
open Go.RowKit Go.Bd
theorem tr_data (s : ByteArray) : (tr s).data.toList = trim s.data.toList := by simp [tr]
def ex1 : Ln := ⟨⟨#[102]⟩, 1, ⟨#[61, 32, 120]⟩⟩
end Go.Proofs.YtcjmfjccjhdgjaaGreatDoor
namespace Go.Bd
open Go.RowKit
theorem blank_small {w : Bs} (h : small w = true) {c : UInt8} (hc : c ∈ w) : blank c = false := by
  obtain ⟨j, hj, rfl⟩ := List.mem_iff_getElem.1 hc
  have := (small_get h hj).2.2
  rwa [List.getD_eq_getElem?_getD, List.getElem?_eq_getElem hj] at this
theorem dropL_id {l : Bs} (h : ∀ c, l.head? = some c → blank c = false) : dropL l = l := by
  unfold dropL
  cases l with
  | nil => rfl
  | cons a l => rw [List.dropWhile_cons, if_neg (by rw [h a rfl]; simp)]
theorem dropR_id {l : Bs} (h : ∀ c, l.getLast? = some c → blank c = false) : dropR l = l := by
  unfold dropR
  have e : dropL l.reverse = l.reverse := dropL_id (fun c hc => h c (by rwa [List.head?_reverse] at hc))
  unfold dropL at e
  rw [e, List.reverse_reverse]
theorem trim_id {l : Bs} (h1 : ∀ c, l.head? = some c → blank c = false) (h2 : ∀ c, l.getLast? = some c → blank c = false) : trim l = l := by
  unfold trim
  rw [dropL_id h1, dropR_id h2]
theorem last_small {a w : Bs} (h : small w = true) (hn : w ≠ []) : ∀ c, (a ++ w).getLast? = some c → blank c = false := fun c hc => by
  rw [List.getLast?_append] at hc
  cases hw : w.getLast? with
  | none => rw [List.getLast?_eq_none_iff] at hw; exact absurd hw hn
  | some d =>
    rw [hw] at hc
    simp only [Option.some_or, Option.some.injEq] at hc
    subst hc
    exact blank_small h (List.mem_of_getLast? hw)
theorem head_small {w b : Bs} (h : small w = true) (hn : w ≠ []) : ∀ c, (w ++ b).head? = some c → blank c = false := fun c hc => by
  cases w with
  | nil => exact absurd rfl hn
  | cons a w =>
    simp only [List.cons_append, List.head?_cons, Option.some.injEq] at hc
    subst hc
    exact blank_small h (List.mem_cons_self ..)
def ti (k : Nat) : Bs := List.replicate k 61
theorem lead_none {a : UInt8} {l : Bs} {c : UInt8} (h : a ≠ c) : leadB (a :: l) c = (0, []) := by
  have hr : runOf (a :: l) c = 0 := by
    unfold runOf
    rw [List.takeWhile_cons, if_neg (by simpa using h)]
    rfl
  unfold leadB
  rw [hr, if_pos (.inl (by omega))]
theorem command_none {a : UInt8} {l : Bs} (h : a ≠ 33) : commandB (a :: l) = none := by
  unfold commandB
  rw [if_pos (.inr (.inl (by simpa using h)))]
end Go.Bd
namespace Go.Proofs.YtcjmfjccjhdgjaaGreatDoor
open Go.RowKit Go.Bd
theorem plain_word {s : Bs} (h : s.all plainC = true) (hn : s ≠ []) : faultsOf s = [] ∧ spansOf s = [txt s] := by
  obtain ⟨h1, h2⟩ := spans_plain h
  rw [if_neg hn] at h1
  refine ⟨?_, h1⟩
  unfold faultsOf
  rw [h2]
  rfl
def tL0 (s n : Bs) : Bs := 124 :: 61 :: 61 :: 61 :: (s ++ 32 :: 35 :: n)
def tL2 (s n : Bs) : Bs := 33 :: 102 :: 105 :: 103 :: 32 :: (s ++ 32 :: (s ++ 32 :: 35 :: n))
def tL3 (k : Nat) (s n : Bs) : Bs := ti k ++ 32 :: (s ++ 32 :: 35 :: 49 :: n)
theorem item_none {a : UInt8} {l : Bs} (h : trim (a :: l) = a :: l) (h1 : a ≠ 42) (h2 : a ≠ 46) : itemB (a :: l) = (0, false, []) := by
  unfold itemB
  rw [h, lead_none h1, lead_none h2, if_neg (by simp), if_neg (by simp)]
end Go.Proofs.YtcjmfjccjhdgjaaGreatDoor
namespace Go.Bd
open Go.RowKit
def fenceB : ByteArray := ⟨#[45, 45, 45, 45]⟩
def NoF (s : ByteArray) : Prop := ∀ k, k + 4 ≤ s.size → s.extract k (k + 4) ≠ fenceB
theorem trim_mid (l : Bs) : ∃ a b, l = a ++ trim l ++ b := by
  refine ⟨l.takeWhile blank, ((l.dropWhile blank).reverse.takeWhile blank).reverse, ?_⟩
  unfold trim dropR dropL
  have h1 := List.takeWhile_append_dropWhile (p := blank) (l := l)
  have h2 := List.takeWhile_append_dropWhile (p := blank) (l := (l.dropWhile blank).reverse)
  have h3 := congrArg List.reverse h2
  rw [List.reverse_append, List.reverse_reverse] at h3
  rw [List.append_assoc, h3, h1]
theorem NoF.trim {s : ByteArray} (h : NoF s) : Bd.trim s.data.toList ≠ fenceL := fun e => by
  obtain ⟨a, b, hab⟩ := trim_mid s.data.toList
  rw [e] at hab
  have hl : s.size = a.length + 4 + b.length := by rw [size_list, hab]; simp [fenceL]; omega
  refine h a.length (by omega) ?_
  have : (s.extract a.length (a.length + 4)).data.toList = fenceB.data.toList := by
    rw [extract_list, hab, List.append_assoc, List.drop_left]
    simp [fenceL, fenceB]
  cases hx : s.extract a.length (a.length + 4) with
  | mk d => rw [hx] at this; exact congrArg ByteArray.mk (Array.toList_inj.1 this)
theorem untilN_cons (st : Bs → Bool) (x : Ln) (l : List Ln) : untilN st (x :: l) = if st (Bd.trim x.text.data.toList) = true then 0 else untilN st l + 1 := rfl
theorem untilN_none {st : Bs → Bool} : ∀ {l : List ByteArray} (n : Nat) (t : List Ln), (∀ s ∈ l, st (Bd.trim s.data.toList) = false) → untilN st (lnsFrom n l ++ t) = l.length + untilN st t
  | [], n, t, _ => by simp [lnsFrom]
  | x :: l, n, t, h => by
    have ih := untilN_none (l := l) (n + 1) t (fun s hs => h s (List.mem_cons_of_mem _ hs))
    have hx := h x (List.mem_cons_self ..)
    rw [lnsFrom, List.cons_append, untilN_cons]
    simp only
    rw [if_neg (by rw [hx]; simp), ih, List.length_cons]
    omega
def wantB (l : List ByteArray) : ByteArray := ⟨(Lib.join (l.map (·.data.toList)) [10]).toArray⟩
end Go.Bd
namespace Go.Proofs.YtcjmfjccjhdgjaaGreatDoor
open Go.RowKit Go.Bd
end Go.Proofs.YtcjmfjccjhdgjaaGreatDoor
namespace Go.Bd
open Go.RowKit
theorem small_plainC {w : Bs} (h : small w = true) : w.all plainC = true := by
  rw [List.all_eq_true]
  intro c hc
  have h1 := List.all_eq_true.1 h c hc
  simp only [Bool.and_eq_true, decide_eq_true_eq, UInt8.le_iff_toNat_le] at h1
  have e1 : (97 : UInt8).toNat = 97 := rfl
  have e2 : (122 : UInt8).toNat = 122 := rfl
  unfold plainC
  simp only [Bool.not_eq_true', Bool.or_eq_false_iff, beq_eq_false_iff_ne, ne_eq, ← UInt8.toNat_inj]
  refine ⟨⟨⟨⟨⟨⟨⟨?_, ?_⟩, ?_⟩, ?_⟩, ?_⟩, ?_⟩, ?_⟩, ?_⟩ <;> simp <;> omega
theorem join_plain : ∀ {ws : List Bs}, (∀ w ∈ ws, small w = true) → (Lib.join ws [32]).all plainC = true
  | [], _ => rfl
  | w :: ws, h => by
    rw [Lib.join_cons, List.all_append, small_plainC (h w (List.mem_cons_self ..)), Bool.true_and]
    unfold Lib.joinTail
    rw [List.all_eq_true]
    intro c hc
    obtain ⟨l, hl, hcl⟩ := List.mem_flatten.1 hc
    obtain ⟨x, hx, rfl⟩ := List.mem_map.1 hl
    rcases List.mem_append.1 hcl with h1 | h1
    · rw [List.mem_singleton] at h1
      subst h1
      decide
    · exact List.all_eq_true.1 (small_plainC (h x (List.mem_cons_of_mem _ hx))) c h1
theorem join_ne {w : Bs} (ws : List Bs) (h : w ≠ []) : Lib.join (w :: ws) [32] ≠ [] := by
  rw [Lib.join_cons]
  exact fun e => h (List.append_eq_nil_iff.1 e).1
theorem trim_word {w : Bs} (h : small w = true) (hn : w ≠ []) : trim w = w :=
  trim_id (fun c hc => head_small (b := []) h hn c (by simpa using hc)) (fun c hc => last_small (a := []) h hn c (by simpa using hc))
theorem lns_trims : ∀ (n : Nat) (l : List ByteArray), (lnsFrom n l).map (fun x => trim x.text.data.toList) = l.map (fun x => trim x.data.toList)
  | n, [] => rfl
  | n, x :: l => by rw [lnsFrom, List.map_cons, List.map_cons, lns_trims]
theorem dropL_deco {a : Bs} (l : Bs) (h : a.all blank = true) : dropL (a ++ l) = dropL l := by
  unfold dropL
  exact List.dropWhile_append_of_pos (List.all_eq_true.1 h)
theorem trim_deco {a w b : Bs} (ha : a.all blank = true) (hb : b.all blank = true) (hw : small w = true) (hn : w ≠ []) : trim (a ++ w ++ b) = w := by
  unfold trim
  rw [List.append_assoc, dropL_deco _ ha, dropL_id (head_small hw hn)]
  unfold dropR
  have h1 := dropL_deco (a := b.reverse) w.reverse (by rw [List.all_reverse]; exact hb)
  have h2 : dropL w.reverse = w.reverse := dropL_id (fun c hc => by
    rw [List.head?_reverse] at hc
    exact last_small (a := []) hw hn c (by simpa using hc))
  unfold dropL at h1 h2
  rw [List.reverse_append, h1, h2, List.reverse_reverse]
end Go.Bd
namespace Go.Proofs.YtcjmfjccjhdgjaaGreatDoor
open Go.RowKit Go.Bd
theorem word_plain {w : Bs} (h : small w = true) (hn : w ≠ []) : commandB w = none ∧ (leadB w 61).1 = 0 ∧ (itemB w).1 = 0 ∧ w ≠ fenceL ∧ Lib.hasPrefix w barsL = false := by
  have ht := trim_word h hn
  obtain ⟨a, r, rfl⟩ := List.exists_cons_of_ne_nil hn
  have ha := List.all_eq_true.1 h a (List.mem_cons_self ..)
  have n33 : a ≠ 33 := fun e => by subst e; exact absurd ha (by decide)
  have n61 : a ≠ 61 := fun e => by subst e; exact absurd ha (by decide)
  have n42 : a ≠ 42 := fun e => by subst e; exact absurd ha (by decide)
  have n46 : a ≠ 46 := fun e => by subst e; exact absurd ha (by decide)
  have n45 : a ≠ 45 := fun e => by subst e; exact absurd ha (by decide)
  have n124 : a ≠ 124 := fun e => by subst e; exact absurd ha (by decide)
  refine ⟨command_none n33, by rw [lead_none n61], by rw [item_none ht n42 n46], fun e => ?_, ?_⟩
  · unfold fenceL at e
    injection e with e1
    exact n45 e1
  · unfold Lib.hasPrefix barsL
    rw [List.isPrefixOf]
    have : ((124 : UInt8) == a) = false := beq_eq_false_iff_ne.2 (Ne.symm n124)
    rw [this, Bool.false_and]
theorem plain_small {w : Bs} (h : small w = true) (hn : w ≠ []) : plainL w = true := by
  obtain ⟨h1, h2, h3, h4, h5⟩ := word_plain h hn
  unfold plainL
  rw [h1, h2, h3, h5, decide_eq_false hn, decide_eq_false h4]
  rfl
theorem paras_law {ls : List ByteArray} {ws : List Bs} (ht : ls.map (fun x => trim x.data.toList) = ws) (h : ∀ w ∈ ws, small w = true ∧ w ≠ []) (hne : ws ≠ []) :
    diagsOf (linesOf ls) = [] ∧ ∃ b, blocksOf (linesOf ls) = [b] ∧ b.kind = 2 ∧ b.line = 1 ∧ b.spans = [txt (Lib.join ws [32])] := by
  cases ls with
  | nil => exact absurd (by simpa using ht.symm) hne
  | cons x r =>
    rw [List.map_cons] at ht
    subst ht
    obtain ⟨h1, h2⟩ := h _ (List.mem_cons_self ..)
    obtain ⟨k1, k2, k3, k4, k5⟩ := word_plain h1 h2
    have hr : ∀ s ∈ r, (fun t => !plainL t) (trim s.data.toList) = false := fun s hs => by
      obtain ⟨g1, g2⟩ := h _ (List.mem_cons_of_mem _ (List.mem_map_of_mem (f := fun x : ByteArray => trim x.data.toList) hs))
      show (!plainL _) = false
      rw [plain_small g1 g2]
      rfl
    have hu : untilN (fun t => !plainL t) (lnsFrom 2 r) = r.length := by
      have := untilN_none (st := fun t => !plainL t) 2 [] hr
      rw [List.append_nil] at this
      rw [this]
      rfl
    have ep : paraB (lnsFrom 2 r) 0 (tr x) = Lib.join (trim x.data.toList :: r.map (fun x => trim x.data.toList)) [32] := by
      unfold paraB paraT
      rw [List.drop_zero, hu, List.take_of_length_le (by rw [lnsFrom_length]; exact Nat.le_refl _), tr_data, lns_trims]
    have hS : stepR ⟨⟨#[102]⟩, 1, x⟩ (lnsFrom 2 r) = paraR ⟨#[102]⟩ 1 (tr x) (lnsFrom 2 r) := by
      unfold stepR
      simp only
      rw [k1]
      simp only
      unfold readR
      rw [tr_data, if_neg (by omega), if_neg (by omega), if_neg h2, if_neg k4, if_neg (by rw [k5]; decide)]
    obtain ⟨f1, f2⟩ := plain_word (s := Lib.join (trim x.data.toList :: r.map (fun x => trim x.data.toList)) [32]) (join_plain (fun w hw => (h w hw).1)) (join_ne _ h2)
    have e : linesOf (x :: r) = ⟨⟨#[102]⟩, 1, x⟩ :: lnsFrom 2 r := rfl
    rw [e, diagsOf_cons, blocksOf_cons, hS]
    unfold paraR
    simp only
    rw [hu, ep, f1, f2, List.drop_of_length_le (by rw [lnsFrom_length]; exact Nat.le_refl _), blocksOf_nil, diagsOf_nil]
    exact ⟨rfl, _, rfl, rfl, rfl, rfl⟩
end Go.Proofs.YtcjmfjccjhdgjaaGreatDoor
namespace Go.Bd
open Go.RowKit
def letter (x : Int) : UInt8 := UInt8.ofNat (97 + (x % 26).toNat)
theorem letter_nat (x : Int) : ((letter x).toNat : Int) = 97 + x % 26 := by
  have h1 : 0 ≤ x % 26 := Int.emod_nonneg _ (by decide)
  have h2 : x % 26 < 26 := Int.emod_lt_of_pos _ (by decide)
  unfold letter
  rw [UInt8.toNat_ofNat']
  omega
theorem letter_small (x : Int) : (97 ≤ letter x && letter x ≤ 122) = true := by
  have h1 : 0 ≤ x % 26 := Int.emod_nonneg _ (by decide)
  have h2 : x % 26 < 26 := Int.emod_lt_of_pos _ (by decide)
  have h := letter_nat x
  simp only [Bool.and_eq_true, decide_eq_true_eq, UInt8.le_iff_toNat_le]
  have e1 : (97 : UInt8).toNat = 97 := rfl
  have e2 : (122 : UInt8).toNat = 122 := rfl
  omega
theorem letters_small (xs : List Int) : small (xs.map letter) = true := by
  unfold small
  rw [List.all_map, List.all_eq_true]
  exact fun x _ => letter_small x
def alphaB : ByteArray := ⟨#[97, 98, 99, 100, 101, 102, 103, 104, 105, 106, 107, 108, 109, 110, 111, 112, 113, 114, 115, 116, 117, 118, 119, 120, 121, 122]⟩
theorem alpha_all : ∀ q : Fin 26, alphaB.extract q.1 (q.1 + 1) = ⟨#[UInt8.ofNat (97 + q.1)]⟩ := by decide +kernel
theorem alpha_at {x : Int} {q : Nat} (h : x % 26 = (q : Int)) (hq : q < 26) : alphaB.extract q (q + 1) = ⟨#[letter x]⟩ := by
  have := alpha_all ⟨q, hq⟩
  rw [this]
  unfold letter
  rw [h]; rfl
def wordT (xs : List Int) : ByteArray := ⟨(xs.map letter).toArray⟩
theorem wordT_data (xs : List Int) : (wordT xs).data.toList = xs.map letter := by simp [wordT]
theorem wordT_size (xs : List Int) : (wordT xs).size = xs.length := by unfold wordT; rw [size_mk, List.length_map]
theorem wordT_snoc {xs : List Int} {k : Nat} {x : Int} (h : xs[k]? = some x) : wordT (xs.take (k + 1)) = wordT (xs.take k) ++ ⟨#[letter x]⟩ := by
  unfold wordT
  rw [List.take_add_one, h]
  have e : ∀ a b : List UInt8, (⟨(a ++ b).toArray⟩ : ByteArray) = ⟨a.toArray⟩ ++ ⟨b.toArray⟩ := fun a b => by
    have : ((⟨a.toArray⟩ : ByteArray) ++ ⟨b.toArray⟩).data.toList = a ++ b := by simp
    exact (mk_of this).symm
  rw [Option.toList_some, List.map_append, e]
  rfl
end Go.Bd
namespace Go.Proofs.YtcjmfjccjhdgjaaGreatDoor
open Go.RowKit Go.Bd
theorem say_txt (s : Bs) : sayL [txt s] = s := by simp [sayL, say1, txt]
end Go.Proofs.YtcjmfjccjhdgjaaGreatDoor
namespace Go.Bd
open Go.RowKit
def BGrid (w : World) (B : Nat) (v : Value) (ls : List (List Int)) : Prop :=
  ∃ vs, Rd w B v vs ∧ vs.length = ls.length ∧ ∀ (j : Nat) r, ls[j]? = some r → (∀ x ∈ r, 0 ≤ x ∧ x ≤ 255) ∧ ∃ rv, vs[j]? = some rv ∧ Rd w B rv (r.map (Value.int .u8))
theorem BGrid.form {w : World} {B : Nat} {v : Value} {ls : List (List Int)} (h : BGrid w B v ls) : ∃ A c, v = .slice A ls.length c ∧ ls.length ≤ c ∧ ∀ (j : Nat) r, ls[j]? = some r → (∀ x ∈ r, 0 ≤ x ∧ x ≤ 255) ∧ ∃ b off A1 c1, A = some ⟨b, off, none⟩ ∧ b < B ∧ w.cell? ⟨b, off + j, none⟩ = some (.slice A1 r.length c1) ∧ r.length ≤ c1 ∧
    ∀ (i : Nat) x, r[i]? = some x → ∃ b1 off1, A1 = some ⟨b1, off1, none⟩ ∧ b1 < B ∧ w.cell? ⟨b1, off1 + i, none⟩ = some (.int .u8 x) := by
  obtain ⟨vs, h1, h2, h3⟩ := h
  obtain ⟨A, c, e1, e2, e3⟩ := Rd.form h1
  rw [h2] at e1 e2
  refine ⟨A, c, e1, e2, fun j r hj => ?_⟩
  obtain ⟨k1, rv, k2, k3⟩ := h3 j r hj
  obtain ⟨b, off, g1, g2, g3⟩ := e3 j rv k2
  obtain ⟨A1, c1, f1, f2, f3⟩ := Rd.form k3
  rw [List.length_map] at f1 f2
  subst f1
  refine ⟨k1, b, off, A1, c1, g1, g2, g3, f2, fun i x hi => ?_⟩
  exact f3 i (.int .u8 x) (by rw [List.getElem?_map, hi]; rfl)
end Go.Bd
namespace Go.Bd
open Go.RowKit
def preB (z : Int) : ByteArray := if z % 4 = 0 then ⟨#[]⟩ else if z % 4 = 1 then ⟨#[32]⟩ else if z % 4 = 2 then ⟨#[9, 32]⟩ else ⟨#[32, 32]⟩
def postB (z : Int) : ByteArray := if z % 3 = 0 then ⟨#[]⟩ else if z % 3 = 1 then ⟨#[32]⟩ else ⟨#[9]⟩
theorem preB_blank (z : Int) : (preB z).data.toList.all blank = true ∧ (preB z).size ≤ 2 := by
  unfold preB
  repeat' split
  all_goals decide
theorem postB_blank (z : Int) : (postB z).data.toList.all blank = true ∧ (postB z).size ≤ 2 := by
  unfold postB
  repeat' split
  all_goals decide
theorem pre_cell {z : Int} {q : Nat} (h : z % 4 = (q : Int)) (hq : q < 4) : (#[.string ⟨#[]⟩, .string ⟨#[32]⟩, .string ⟨#[9, 32]⟩, .string ⟨#[32, 32]⟩] : Array Value)[q]? = some (.string (preB z)) := by
  unfold preB
  match q, hq with
  | 0, _ => rw [if_pos (by omega)]; rfl
  | 1, _ => rw [if_neg (by omega), if_pos (by omega)]; rfl
  | 2, _ => rw [if_neg (by omega), if_neg (by omega), if_pos (by omega)]; rfl
  | 3, _ => rw [if_neg (by omega), if_neg (by omega), if_neg (by omega)]; rfl
theorem post_cell {z : Int} {q : Nat} (h : z % 3 = (q : Int)) (hq : q < 3) : (#[.string ⟨#[]⟩, .string ⟨#[32]⟩, .string ⟨#[9]⟩] : Array Value)[q]? = some (.string (postB z)) := by
  unfold postB
  match q, hq with
  | 0, _ => rw [if_pos (by omega)]; rfl
  | 1, _ => rw [if_neg (by omega), if_pos (by omega)]; rfl
  | 2, _ => rw [if_neg (by omega), if_neg (by omega)]; rfl
theorem news3 (w : World) (o1 o2 : Obj) (v : Value) {t : TypeId} : ∀ (j : Nat) (u : Value), [v][j]? = some u → (((w.alloc o1).alloc o2).alloc (.cells #[v] t)).cell? ((⟨w.heap.size + 1 + 1, 0, none⟩ : Addr).add j) = some u := fun j u hu => by
  have h := World.news_of_block (cs := #[v]) (t := t) (fr := (0, 0)) (heap_alloc_new ((w.alloc o1).alloc o2) _) j u hu
  rw [World.size_alloc, World.size_alloc] at h
  exact h
theorem news3d (w : World) (o1 o2 : Obj) (v : Value) {t : TypeId} : ∀ (j : Nat) (u : Value), [v][j]? = some u → (((w.alloc o1).alloc o2).alloc (.cells #[v] t)).drew.cell? ((⟨w.heap.size + 1 + 1, 0, none⟩ : Addr).add j) = some u := fun j u hu => news3 w o1 o2 v j u hu
def lineB (x2 : Int) (i : Nat) (r : List Int) : ByteArray := preB (x2 + i) ++ wordT r ++ postB (x2 + i)
theorem lineB_data (x2 : Int) (i : Nat) (r : List Int) : (lineB x2 i r).data.toList = (preB (x2 + i)).data.toList ++ r.map letter ++ (postB (x2 + i)).data.toList := by
  unfold lineB
  simp [wordT]
theorem lineB_trim {x2 : Int} {i : Nat} {r : List Int} (h : r ≠ []) : trim (lineB x2 i r).data.toList = r.map letter := by
  rw [lineB_data]
  exact trim_deco (preB_blank _).1 (postB_blank _).1 (letters_small r) (fun e => h (List.map_eq_nil_iff.1 e))
theorem lineB_size (x2 : Int) (i : Nat) (r : List Int) : (lineB x2 i r).size ≤ r.length + 4 := by
  have h1 := (preB_blank (x2 + i)).2
  have h2 := (postB_blank (x2 + i)).2
  unfold lineB
  rw [ByteArray.size_append, ByteArray.size_append, wordT_size]
  omega
def linesB (x2 : Int) (i : Nat) : List (List Int) → List ByteArray
  | [] => []
  | r :: l => lineB x2 i r :: linesB x2 (i + 1) l
theorem linesB_length (x2 : Int) : ∀ (i : Nat) (l : List (List Int)), (linesB x2 i l).length = l.length
  | _, [] => rfl
  | i, r :: l => by rw [linesB, List.length_cons, List.length_cons, linesB_length]
theorem linesB_snoc (x2 : Int) : ∀ (i : Nat) (l : List (List Int)) (r : List Int), linesB x2 i (l ++ [r]) = linesB x2 i l ++ [lineB x2 (i + l.length) r]
  | i, [], r => rfl
  | i, a :: l, r => by
    rw [List.cons_append, linesB, linesB_snoc x2 (i + 1) l r, linesB, List.length_cons, List.cons_append]
    congr 4
    omega
theorem linesB_trims (x2 : Int) : ∀ (i : Nat) (l : List (List Int)), (∀ r ∈ l, r ≠ []) → (linesB x2 i l).map (fun x => trim x.data.toList) = l.map (fun r => r.map letter)
  | _, [], _ => rfl
  | i, r :: l, h => by
    rw [linesB, List.map_cons, List.map_cons, lineB_trim (h r (List.mem_cons_self ..)), linesB_trims x2 (i + 1) l (fun q hq => h q (List.mem_cons_of_mem _ hq))]
theorem linesB_wt (x2 : Int) : ∀ (i : Nat) (l : List (List Int)), (∀ r ∈ l, r.length ≤ 50) → wtT (linesB x2 i l) ≤ 55 * l.length
  | _, [], _ => Nat.le_refl _
  | i, r :: l, h => by
    have h1 := linesB_wt x2 (i + 1) l (fun q hq => h q (List.mem_cons_of_mem _ hq))
    have h2 := lineB_size x2 i r
    have h3 := h r (List.mem_cons_self ..)
    unfold wtT at h1 ⊢
    rw [linesB, List.map_cons, List.sum_cons, List.length_cons, List.length_cons]
    omega
def allB (l : List (List Int)) : ByteArray := ⟨(Lib.join (l.map (fun r => r.map letter)) [32]).toArray⟩
theorem allB_first (r : List Int) : allB [r] = wordT r := by
  unfold allB wordT
  rw [List.map_cons, List.map_nil, Lib.join_one]
theorem allB_size : ∀ (l : List (List Int)), (∀ r ∈ l, r.length ≤ 50) → (allB l).size ≤ 51 * l.length
  | [], _ => Nat.le_refl _
  | r :: l, h => by
    unfold allB
    rw [size_mk, List.map_cons, Lib.join_cons, List.length_append, List.length_map]
    have h3 := h r (List.mem_cons_self ..)
    have h4 : ∀ (l : List (List Int)), (∀ r ∈ l, r.length ≤ 50) → (Lib.joinTail [32] (l.map (fun r => r.map letter))).length ≤ 51 * l.length := by
      intro l
      induction l with
      | nil => intro _; exact Nat.le_refl _
      | cons q l ih =>
        intro hl
        have h1 := ih (fun q hq => hl q (List.mem_cons_of_mem _ hq))
        have h2 := hl q (List.mem_cons_self ..)
        unfold Lib.joinTail at h1 ⊢
        simp only [List.map_cons, List.flatten_cons, List.length_append, List.length_map, List.length_cons, List.length_nil]
        omega
    have h5 := h4 l (fun q hq => h q (List.mem_cons_of_mem _ hq))
    rw [List.length_cons]
    omega
end Go.Bd
namespace Go.Proofs.YtcjmfjccjhdgjaaGreatDoor
open Go.RowKit Go.Bd
theorem allB_snoc {l : List (List Int)} (r : List Int) (hl : l ≠ []) : allB (l ++ [r]) = (allB l ++ ⟨#[32]⟩) ++ wordT r := by
  obtain ⟨a, t, rfl⟩ := List.exists_cons_of_ne_nil hl
  have h := join_snoc (a.map letter) (r.map letter) [32] (t.map (fun r => r.map letter))
  refine ba_ext ?_
  unfold allB
  rw [List.map_append, List.map_cons, List.map_cons, List.map_nil]
  simp only [ByteArray.data_append, Array.toList_append, wordT_data]
  rw [List.append_assoc]
  exact h
theorem paras_told {x2 : Int} {l : List (List Int)} (h : ∀ r ∈ l, r ≠ []) (hn : l ≠ []) :
    diagsOf (linesOf (linesB x2 0 l)) = [] ∧ ∃ b, blocksOf (linesOf (linesB x2 0 l)) = [b] ∧ b.kind = 2 ∧ b.line = 1 ∧ b.spans = [txt (allB l).data.toList] := by
  have e : (allB l).data.toList = Lib.join (l.map (fun r => r.map letter)) [32] := by simp [allB]
  rw [e]
  exact paras_law (linesB_trims x2 0 l h) (fun w hw => by
    obtain ⟨r, hr, rfl⟩ := List.mem_map.1 hw
    exact ⟨letters_small r, fun e => h r hr (List.map_eq_nil_iff.1 e)⟩) (fun e => hn (List.map_eq_nil_iff.1 e))
set_option maxRecDepth 100000 in
set_option maxHeartbeats 16000000 in
theorem blocksParas_true (v : Value) (ls : List (List Int)) (x2 : Int) (m : Int) (w : World) (hm : Glob m w) (hG : BGrid w w.heap.size v ls) (hl : ls.length ≤ 140737488355328) (hwf2 : (Lit.int .u8 x2).wf = true) :
    Calls Tryz.prog 7 #[v, .int .u8 x2] w fun e w' => e = .returned (.bool true) ∧ Below w.heap.size w w' := by
  obtain ⟨A, c, rfl, hcl, f⟩ := hG.form
  have F := Lib.hid f
  obtain ⟨hx20, hx21⟩ := bounds_u8 hwf2
  clear hG f hwf2
  obtain ⟨n, hn⟩ : ∃ n, ls.length = n := ⟨_, rfl⟩
  rw [hn] at hl hcl ⊢
  have CA := alive_any hm
  have HM := Lib.hid hm
  have HN := Lib.hid hn
  clear hm hn
  go_enter Tryz.func7, Tryz.ntmps7
  go_wp2_with fail
  refine CA.mono ?_
  clear CA
  rintro e w1 ⟨rfl, hb1⟩
  have HB1 := Lib.hid hb1
  have CA := alive_any (HM.out.below hb1)
  clear hb1
  by_cases c0 : n = 0
  · subst c0
    go_wp2_with fail
    refine CA.mono ?_
    rintro e w2 ⟨rfl, hb2⟩
    go_wp2
    go_ret
    exact ⟨rfl, HB1.out.trans (hb2.mono HB1.out.size)⟩
  have c0b : ((n : Int) == 0) = false := by simp; omega
  have c0c : ¬ (n : Int) = 0 := by omega
  by_cases c1 : 50 < n
  · have c1b : decide (50 < (n : Int)) = true := decide_eq_true (by omega)
    go_wp2_with fail
    refine CA.mono ?_
    rintro e w2 ⟨rfl, hb2⟩
    go_wp2
    go_ret
    exact ⟨rfl, HB1.out.trans (hb2.mono HB1.out.size)⟩
  have c1b : decide (50 < (n : Int)) = false := decide_eq_false (by omega)
  have hn50 : n ≤ 50 := by omega
  clear CA
  go_wp2
  clear c0b c0c c1b
  go_loopg [5, 6, 7, 8, 9] n (fun q vt va vi v8 v9 wr => ∃ k : Nat, k + q = n ∧ vi = .int .i64 (k : Int) ∧ va = .string (allB (ls.take k)) ∧ Hid (wr.ownsRow w1.heap.size 9 1 vt k ((linesB x2 0 (ls.take k)).map Value.string) ∧ Below w1.heap.size w1 wr ∧ ∀ r ∈ ls.take k, r ≠ [] ∧ r.length ≤ 50))
  case atStart => exact ⟨0, by omega, rfl, by rw [List.take_zero]; rfl, World.ownsRow_nil _ _ _ _, Below.refl _ _, fun r hr => by rw [List.take_zero] at hr; cases hr⟩
  case round =>
    obtain ⟨k, hk, rfl, rfl, HK⟩ := hrel
    obtain ⟨TA, tc, rfl, _⟩ := owns_form HK.out.1
    by_cases hlt : k < n
    · obtain ⟨r, hr⟩ : ∃ r, ls[k]? = some r := ⟨_, List.getElem?_eq_getElem (by have := HN.out; omega)⟩
      obtain ⟨hrb, b, off, A1, d1, rfl, hb, hc0, hcd, hrow⟩ := F.out k r hr
      have hwb := HB1.out.trans (HK.out.2.1.mono HB1.out.size)
      replace hc0 := (hwb.cell (p := ⟨b, off + k, none⟩) hb).trans hc0
      have hbr : b < wr.heap.size := by have := hwb.size; omega
      obtain ⟨q, hq⟩ : ∃ q, r.length = q := ⟨_, rfl⟩
      have HR := Lib.hid (And.intro hr (And.intro hrb (And.intro hrow hwb)))
      have HQ := Lib.hid hq
      rw [hq] at hc0 hcd
      clear hr hrb hrow hwb hq
      by_cases d0 : q = 0
      · subst d0
        go_wp2
        go_ret
        exact ⟨rfl, HR.out.2.2.2⟩
      have d0b : ((q : Int) == 0) = false := by simp; omega
      have d0c : ¬ (q : Int) = 0 := by omega
      by_cases d1' : 50 < q
      · have d1b : decide (50 < (q : Int)) = true := decide_eq_true (by omega)
        go_wp2
        go_ret
        exact ⟨rfl, HR.out.2.2.2⟩
      have d1b : decide (50 < (q : Int)) = false := decide_eq_false (by omega)
      go_wp2
      obtain ⟨gO, hgO⟩ : ∃ x, x = gk := ⟨_, rfl⟩
      subst hgO
      obtain ⟨wO, hwO⟩ : ∃ x, x = wr := ⟨_, rfl⟩
      subst hwO
      clear d0b d0c d1b
      go_loopg [8, 9] q (fun z vs vj wr => ∃ j : Nat, j + z = q ∧ vj = .int .i64 (j : Int) ∧ vs = .string (wordT (r.take j)) ∧ Hid (Below wO.heap.size wO wr))
      case atStart => exact ⟨0, by omega, rfl, by rw [List.take_zero]; rfl, Below.refl _ _⟩
      case round =>
        obtain ⟨j, hj, rfl, rfl, HJ⟩ := hrel
        replace hc0 := (HJ.out.cell (p := ⟨b, off + k, none⟩) hbr).trans hc0
        by_cases hlt2 : j < q
        · obtain ⟨x, hx⟩ : ∃ x, r[j]? = some x := ⟨_, List.getElem?_eq_getElem (by have := HQ.out; omega)⟩
          obtain ⟨hx0, hx1⟩ := HR.out.2.1 x (List.mem_of_getElem? hx)
          obtain ⟨b1, off1, rfl, hb1, hc1⟩ := HR.out.2.2.1 j x hx
          replace hc1 := ((HR.out.2.2.2.trans (HJ.out.mono HR.out.2.2.2.size)).cell (p := ⟨b1, off1 + j, none⟩) hb1).trans hc1
          have hsn := wordT_snoc hx
          obtain ⟨z, hz⟩ : ∃ z : Nat, x % 26 = (z : Int) := ⟨(x % 26).toNat, by omega⟩
          have hz26 : z < 26 := by omega
          rw [← alpha_at hz hz26] at hsn
          have HSN := Lib.hid hsn
          obtain ⟨sk, hsk⟩ : ∃ sk, wordT (r.take j) = sk := ⟨_, rfl⟩
          rw [hsk] at HSN ⊢
          have hskl : sk.size ≤ 50 := by rw [← hsk, wordT_size, List.length_take]; omega
          have hz0 : (0 : Int) ≤ (z : Int) := by omega
          have hz1 : (z : Int) ≤ (z : Int) + 1 := by omega
          have hz2 : (z : Int) + 1 ≤ 26 := by omega
          clear hx hsn hsk
          go_wp2
          go_quiet (fail)
          go_wp2
          go_roundg (gk - 1)
          case measure => omega
          case rel => exact ⟨j + 1, by omega, by go_num, by rw [HSN.out]; rfl, Go.below_drewN HJ.out _⟩
        · obtain rfl : j = q := by omega
          have hword : wordT (r.take j) = wordT r := by rw [List.take_of_length_le (by have := HQ.out; omega)]
          rw [hword]
          have hB2 := HR.out.2.2.2.trans (HJ.out.mono HR.out.2.2.2.size)
          have howr : wr.ownsRow w1.heap.size 9 1 (.slice TA k tc) k ((linesB x2 0 (ls.take k)).map Value.string) := own_below HK.out.1 HJ.out
          have hbw1 : Below w1.heap.size w1 wr := HK.out.2.1.trans (HJ.out.mono HK.out.2.1.size)
          have hws := hbw1.size
          obtain ⟨sw, hsw⟩ : ∃ sw, wordT r = sw := ⟨_, rfl⟩
          have hswl : sw.size ≤ 50 := by rw [← hsw, wordT_size, HQ.out]; omega
          rw [hsw]
          obtain ⟨ab, hab⟩ : ∃ ab, allB (ls.take k) = ab := ⟨_, rfl⟩
          have habl : ab.size ≤ 2550 := by
            have := allB_size (ls.take k) (fun r hr => (HK.out.2.2 r hr).2)
            rw [hab, List.length_take] at this
            omega
          rw [hab]
          have HW := Lib.hid (And.intro howr (And.intro hbw1 (And.intro hB2 (And.intro hsw hab))))
          clear howr hbw1 hB2 hsw hab hword HJ hbr
          have hxk : (0 : Int) ≤ x2 + (k : Int) := by omega
          have hxk2 : x2 + (k : Int) ≤ 400 := by omega
          obtain ⟨qa, hqa⟩ : ∃ qa : Nat, (x2 + (k : Int)) % 4 = (qa : Int) := ⟨((x2 + (k : Int)) % 4).toNat, by omega⟩
          obtain ⟨qb, hqb⟩ : ∃ qb : Nat, (x2 + (k : Int)) % 3 = (qb : Int) := ⟨((x2 + (k : Int)) % 3).toNat, by omega⟩
          have hqa4 : qa < 4 := by omega
          have hqb3 : qb < 3 := by omega
          have hqa4' : (qa : Int) < 4 := by omega
          obtain ⟨i0, hi0, hz0, hz1, hz2⟩ := info_parts strs_info
          have hqb3' : (qb : Int) < 3 := by omega
          have hca := pre_cell hqa hqa4
          have hcb := post_cell hqb hqb3
          obtain ⟨pa, hpa⟩ : ∃ pa, preB (x2 + (k : Int)) = pa := ⟨_, rfl⟩
          obtain ⟨pb, hpb⟩ : ∃ pb, postB (x2 + (k : Int)) = pb := ⟨_, rfl⟩
          have hpal : pa.size ≤ 2 := hpa ▸ (preB_blank _).2
          have hpbl : pb.size ≤ 2 := hpb ▸ (postB_blank _).2
          rw [hpa] at hca
          rw [hpb] at hcb
          have hla : ∀ (h : qa < [Value.string ⟨#[]⟩, Value.string ⟨#[32]⟩, Value.string ⟨#[9, 32]⟩, Value.string ⟨#[32, 32]⟩].length), [Value.string ⟨#[]⟩, Value.string ⟨#[32]⟩, Value.string ⟨#[9, 32]⟩, Value.string ⟨#[32, 32]⟩][qa]'h = .string pa := fun h => by
            rw [List.getElem?_toArray, List.getElem?_eq_getElem h] at hca
            exact Option.some.inj hca
          have hlb : ∀ (h : qb < [Value.string ⟨#[]⟩, Value.string ⟨#[32]⟩, Value.string ⟨#[9]⟩].length), [Value.string ⟨#[]⟩, Value.string ⟨#[32]⟩, Value.string ⟨#[9]⟩][qb]'h = .string pb := fun h => by
            rw [List.getElem?_toArray, List.getElem?_eq_getElem h] at hcb
            exact Option.some.inj hcb
          have HP := Lib.hid (And.intro hpa hpb)
          have hct1 : ¬ 9223372036854775807 < pa.size + sw.size := by omega
          have hct2 : ¬ 9223372036854775807 < (pa ++ sw).size + pb.size := by rw [ByteArray.size_append]; omega
          have hct3 : ¬ 9223372036854775807 < pa.size + sw.size + pb.size := by omega
          have hw1 : IntKind.i64.wrap x2 = x2 := IntWalk.i64_in _ (by omega)
          have hw2 : IntKind.i64.wrap (x2 + (k : Int)) = x2 + (k : Int) := IntWalk.i64_in _ (by omega)
          have ht4 : (x2 + (k : Int)).tmod 4 = (qa : Int) := by rw [Int.tmod_eq_emod_of_nonneg hxk]; exact hqa
          have ht3 : (x2 + (k : Int)).tmod 3 = (qb : Int) := by rw [Int.tmod_eq_emod_of_nonneg hxk]; exact hqb
          clear hpa hpb
          have htk : ls.take (k + 1) = ls.take k ++ [r] := by rw [List.take_add_one, HR.out.1]; rfl
          have HL3 : Hid (∀ {v : Value} {W : World}, W.ownsRow w1.heap.size 9 1 v (k + 1) ((linesB x2 0 (ls.take k)).map Value.string ++ [.string ((pa ++ sw) ++ pb)]) → Below w1.heap.size w1 W → W.ownsRow w1.heap.size 9 1 v (k + 1) ((linesB x2 0 (ls.take (k + 1))).map Value.string) ∧ Below w1.heap.size w1 W ∧ ∀ r ∈ ls.take (k + 1), r ≠ [] ∧ r.length ≤ 50) := fun {v W} ho hb => by
            have e : lineB x2 (0 + (ls.take k).length) r = (pa ++ sw) ++ pb := by
              rw [List.length_take, HN.out, Nat.min_eq_left (by omega), Nat.zero_add]
              unfold lineB
              rw [HP.out.1, HP.out.2, HW.out.2.2.2.1]
            refine ⟨?_, hb, fun t ht => ?_⟩
            · rw [htk, linesB_snoc, e, List.map_append]
              exact ho
            · rw [htk] at ht
              rcases List.mem_append.1 ht with ht | ht
              · exact HK.out.2.2 t ht
              · rw [List.mem_singleton] at ht
                subst ht
                have := HQ.out
                exact ⟨fun e => by rw [e] at this; simp at this; omega, by omega⟩
          by_cases hk0 : k = 0
          case' pos =>
            have hkd : decide ((0 : Int) < (k : Int)) = false := decide_eq_false (by omega)
            have hk1 : ¬ (0 : Int) < (k : Int) := by omega
            have HK0 := Lib.hid hk0
            clear hk0
            have hva : ab ++ sw = allB (ls.take (k + 1)) := by
              rw [htk, HK0.out, List.take_zero, List.nil_append, allB_first, HW.out.2.2.2.1]
              have e : ab = ⟨#[]⟩ := by
                have := HW.out.2.2.2.2
                rw [HK0.out, List.take_zero] at this
                rw [← this]
                rfl
              rw [e]
              exact ba_ext (by simp)
            have HVA := Lib.hid hva
            clear hva htk
            go_wp2
          case' neg =>
            have hkd : decide ((0 : Int) < (k : Int)) = true := decide_eq_true (by omega)
            have hk1 : (0 : Int) < (k : Int) := by omega
            have HK0 := Lib.hid hk0
            clear hk0
            have hva : (ab ++ ⟨#[32]⟩) ++ sw = allB (ls.take (k + 1)) := by
              rw [htk, allB_snoc _ (fun e => HK0.out (by
                have := congrArg List.length e
                rw [List.length_take, HN.out] at this
                simp at this
                omega)), HW.out.2.2.2.1, HW.out.2.2.2.2]
            have HVA := Lib.hid hva
            clear hva htk
            go_wp2
          all_goals
            refine wp_region_held_drew (S := (fun _ => True)) (by kernel_rfl) ?_ (fun hHeld0 => ?_)
            · (try dsimp only)
              all_goals trivial
            refine wpAnyH_take (i := 0) (oi := ⟨some 81, _, _, _, _, _⟩) (v := ?_) rfl (by kernel_rfl) (by kernel_rfl) (by kernel_rfl) (fun _ _ _ h => h) (Or.inl ⟨by kernel_rfl, ?_⟩) (by assumption) ?_
            rotate_left
            · (intro w hSw; (try dsimp only at hSw); go_simp; (first | done | with_reducible rfl))
            (try simp only [Act.put, List.setIfInBounds_toArray, List.set_cons_zero, List.set_cons_succ])
            refine wpAnyH_take (i := 2) (oi := ⟨some 83, _, _, _, _, _⟩) (v := ?_) rfl (by kernel_rfl) (by kernel_rfl) (by kernel_rfl) (fun _ _ _ h => h) (Or.inl ⟨by kernel_rfl, ?_⟩) (by assumption) ?_
            rotate_left
            · (intro w hSw; (try dsimp only at hSw); go_simp; (first | done | with_reducible rfl))
            (try simp only [Act.put, List.setIfInBounds_toArray, List.set_cons_zero, List.set_cons_succ])
            refine wpAnyH_take (i := 3) (oi := ⟨some 84, _, _, _, _, _⟩) (v := ?_) rfl (by kernel_rfl) (by kernel_rfl) (by kernel_rfl) (fun _ _ _ h => h) (Or.inl ⟨by kernel_rfl, ?_⟩) (by assumption) ?_
            rotate_left
            · (intro w hSw; (try dsimp only at hSw); go_simp; (first | done | with_reducible rfl))
            (try simp only [Act.put, List.setIfInBounds_toArray, List.set_cons_zero, List.set_cons_succ])
            refine wpAnyH_take (i := 4) (oi := ⟨some 85, _, _, _, _, _⟩) (v := ?_) rfl (by kernel_rfl) (by kernel_rfl) (by kernel_rfl) (fun _ _ _ h => h) (Or.inl ⟨by kernel_rfl, ?_⟩) (by assumption) ?_
            rotate_left
            · (intro w hSw; (try dsimp only at hSw); go_simp; (first | done | with_reducible rfl))
            (try simp only [Act.put, List.setIfInBounds_toArray, List.set_cons_zero, List.set_cons_succ])
            refine wpAnyH_take (i := 5) (oi := ⟨some 86, _, _, _, _, _⟩) (v := ?_) rfl (by kernel_rfl) (by kernel_rfl) (by kernel_rfl) (fun _ _ _ h => h) (Or.inl ⟨by kernel_rfl, ?_⟩) (by assumption) ?_
            rotate_left
            · (intro w hSw; (try dsimp only at hSw); go_simp; (first | done | with_reducible rfl))
            (try simp only [Act.put, List.setIfInBounds_toArray, List.set_cons_zero, List.set_cons_succ])
            refine wpAnyH_take (i := 6) (oi := ⟨some 87, _, _, _, _, _⟩) (v := (.int .i64 (qa : Int))) rfl (by kernel_rfl) (by kernel_rfl) (by kernel_rfl) (fun _ _ _ h => h) (Or.inl ⟨by kernel_rfl, ?_⟩) (by assumption) ?_
            · intro w hSw
              go_simp
              try simp only [hw1, hw2, ht4]
              try rfl
            (try simp only [Act.put, List.setIfInBounds_toArray, List.set_cons_zero, List.set_cons_succ])
            refine wpAnyH_take (i := 9) (oi := ⟨some 90, _, _, _, _, _⟩) (v := ?_) rfl (by kernel_rfl) (by kernel_rfl) (by kernel_rfl) (fun _ _ _ h => h) (Or.inl ⟨by kernel_rfl, ?_⟩) (by assumption) ?_
            rotate_left
            · (intro w hSw; (try dsimp only at hSw); go_simp; (first | done | with_reducible rfl))
            (try simp only [Act.put, List.setIfInBounds_toArray, List.set_cons_zero, List.set_cons_succ])
            refine wpAnyH_take (i := 12) (oi := ⟨some 93, _, _, _, _, _⟩) (v := ?_) rfl (by kernel_rfl) (by kernel_rfl) (by kernel_rfl) (fun _ _ _ h => h) (Or.inl ⟨by kernel_rfl, ?_⟩) (by assumption) ?_
            rotate_left
            · (intro w hSw; (try dsimp only at hSw); go_simp; (first | done | with_reducible rfl))
            (try simp only [Act.put, List.setIfInBounds_toArray, List.set_cons_zero, List.set_cons_succ])
            refine wpAnyH_take (i := 13) (oi := ⟨some 94, _, _, _, _, _⟩) (v := ?_) rfl (by kernel_rfl) (by kernel_rfl) (by kernel_rfl) (fun _ _ _ h => h) (Or.inl ⟨by kernel_rfl, ?_⟩) (by assumption) ?_
            rotate_left
            · (intro w hSw; (try dsimp only at hSw); go_simp; (first | done | with_reducible rfl))
            (try simp only [Act.put, List.setIfInBounds_toArray, List.set_cons_zero, List.set_cons_succ])
            refine wpAnyH_take (i := 14) (oi := ⟨some 95, _, _, _, _, _⟩) (v := ?_) rfl (by kernel_rfl) (by kernel_rfl) (by kernel_rfl) (fun _ _ _ h => h) (Or.inl ⟨by kernel_rfl, ?_⟩) (by assumption) ?_
            rotate_left
            · (intro w hSw; (try dsimp only at hSw); go_simp; (first | done | with_reducible rfl))
            (try simp only [Act.put, List.setIfInBounds_toArray, List.set_cons_zero, List.set_cons_succ])
            refine wpAnyH_take (i := 15) (oi := ⟨some 96, _, _, _, _, _⟩) (v := ?_) rfl (by kernel_rfl) (by kernel_rfl) (by kernel_rfl) (fun _ _ _ h => h) (Or.inl ⟨by kernel_rfl, ?_⟩) (by assumption) ?_
            rotate_left
            · (intro w hSw; (try dsimp only at hSw); go_simp; (first | done | with_reducible rfl))
            (try simp only [Act.put, List.setIfInBounds_toArray, List.set_cons_zero, List.set_cons_succ])
            refine wpAnyH_take (i := 16) (oi := ⟨some 97, _, _, _, _, _⟩) (v := (.int .i64 (qb : Int))) rfl (by kernel_rfl) (by kernel_rfl) (by kernel_rfl) (fun _ _ _ h => h) (Or.inl ⟨by kernel_rfl, ?_⟩) (by assumption) ?_
            · intro w hSw
              go_simp
              try simp only [hw1, hw2, ht3]
              try rfl
            (try simp only [Act.put, List.setIfInBounds_toArray, List.set_cons_zero, List.set_cons_succ])
            refine wpAnyH_ready (rs := [1, 11]) (by kernel_rfl) (by simp) ?_
            refine AllReadyH.cons (o := ⟨some 82, _, _, _, _, _⟩) rfl (fun K hK => ?_) ?_
            · skip
              go_simp
              refine hK.out _ _ ?_ (fun hHeld1 => ?_)
              · (try dsimp only)
                all_goals trivial
              clear hK K hHeld0
              (try simp only [Act.put, List.setIfInBounds_toArray, List.set_cons_zero, List.set_cons_succ])
              refine wpAnyH_take (i := 7) (oi := ⟨some 88, _, _, _, _, _⟩) (v := ?_) rfl (by kernel_rfl) (by kernel_rfl) (by kernel_rfl) (fun _ _ _ h => h) (Or.inl ⟨by kernel_rfl, ?_⟩) (by assumption) ?_
              rotate_left
              · (intro w hSw; (try dsimp only at hSw); go_simp; (first | done | with_reducible rfl))
              (try simp only [Act.put, List.setIfInBounds_toArray, List.set_cons_zero, List.set_cons_succ])
              refine wpAnyH_ready (rs := [8, 11]) (by kernel_rfl) (by simp) ?_
              refine AllReadyH.cons (o := ⟨some 89, _, _, _, _, _⟩) rfl (fun K hK => ?_) ?_
              · skip
                go_simp
                try simp only [hla]
                refine hK.out _ _ ?_ (fun hHeld2 => ?_)
                · (try dsimp only)
                  all_goals trivial
                clear hK K hHeld1
                (try simp only [Act.put, List.setIfInBounds_toArray, List.set_cons_zero, List.set_cons_succ])
                refine wpAnyH_take (i := 10) (oi := ⟨some 91, _, _, _, _, _⟩) (v := ?_) rfl (by kernel_rfl) (by kernel_rfl) (by kernel_rfl) (fun _ _ _ h => h) (Or.inl ⟨by kernel_rfl, ?_⟩) (by assumption) ?_
                rotate_left
                · (intro w hSw; (try dsimp only at hSw); go_simp; (first | done | with_reducible rfl))
                (try simp only [Act.put, List.setIfInBounds_toArray, List.set_cons_zero, List.set_cons_succ])
                refine wpAnyH_ready (rs := [11]) (by kernel_rfl) (by simp) ?_
                refine AllReadyH.cons (o := ⟨some 92, _, _, _, _, _⟩) rfl (fun K hK => ?_) AllReadyH.nil
                go_simp
                refine hK.out _ _ ?_ (fun hHeld3 => ?_)
                · (try dsimp only)
                  all_goals trivial
                clear hK K hHeld2
                (try simp only [Act.put, List.setIfInBounds_toArray, List.set_cons_zero, List.set_cons_succ])
                refine wpAnyH_take (i := 17) (oi := ⟨some 98, _, _, _, _, _⟩) (v := ?_) rfl (by kernel_rfl) (by kernel_rfl) (by kernel_rfl) (fun _ _ _ h => h) (Or.inl ⟨by kernel_rfl, ?_⟩) (by assumption) ?_
                rotate_left
                · (intro w hSw; (try dsimp only at hSw); go_simp; (first | done | with_reducible rfl))
                (try simp only [Act.put, List.setIfInBounds_toArray, List.set_cons_zero, List.set_cons_succ])
                refine wpAnyH_ready (rs := [18]) (by kernel_rfl) (by simp) ?_
                refine AllReadyH.cons (o := ⟨some 99, _, _, _, _, _⟩) rfl (fun K hK => ?_) AllReadyH.nil
                go_simp
                try simp only [hlb]
                refine hK.out _ _ ?_ (fun hHeld4 => ?_)
                · (try dsimp only)
                  all_goals trivial
                clear hK K hHeld3
                (try simp only [Act.put, List.setIfInBounds_toArray, List.set_cons_zero, List.set_cons_succ])
                refine wpAnyH_take (i := 19) (oi := ⟨some 100, _, _, _, _, _⟩) (v := ?_) rfl (by kernel_rfl) (by kernel_rfl) (by kernel_rfl) (fun _ _ _ h => h) (Or.inl ⟨by kernel_rfl, ?_⟩) (by assumption) ?_
                rotate_left
                · (intro w hSw; (try dsimp only at hSw); go_simp; (first | done | with_reducible rfl))
                (try simp only [Act.put, List.setIfInBounds_toArray, List.set_cons_zero, List.set_cons_succ])
                refine wpAnyH_ready (rs := [20]) (by kernel_rfl) (by simp) ?_
                refine AllReadyH.cons (o := ⟨some 101, _, _, _, _, _⟩) rfl (fun K hK => ?_) AllReadyH.nil
                go_simp
                refine hK.out _ _ ?_ (fun hHeld5 => ?_)
                · (try dsimp only)
                  all_goals trivial
                clear hK K hHeld4
                (try simp only [Act.put, List.setIfInBounds_toArray, List.set_cons_zero, List.set_cons_succ])
                refine wpAnyH_ready (rs := [21]) (by kernel_rfl) (by simp) ?_
                refine AllReadyH.cons (o := ⟨some 102, _, _, _, _, _⟩) rfl (fun K hK => ?_) AllReadyH.nil
                refine step_append_lies _ (by rfl) _ _ _ (by rfl) w1.heap.size 9 i0 _ 1 16 Tryz.underlying22 hi0 hz0 hz1 hz2 rfl (by omega) (.slice TA k tc) k ((linesB x2 0 (ls.take k)).map Value.string) (by rfl) (by first | exact ((HW.out.1.alloc _).alloc _).alloc _ | exact (((HW.out.1.alloc _).alloc _).alloc _).drew) _ 1 1 [.string ((pa ++ sw) ++ pb)] (by rfl) (by rfl) (by first | exact news3 _ _ _ _ | exact news3d _ _ _ _) (by intro u hu; rw [List.mem_singleton] at hu; subst hu; rfl) (by omega) (by unfold maxLen; omega) (by omega) (by simp; omega) _ rfl ?_
                intro g cap w2 ho2 hg2 hat2 hl2
                refine hK.out _ _ ?_ (fun hHeld6 => ?_)
                · (try dsimp only)
                  all_goals trivial
                clear hK K hHeld5
                (try simp only [Act.put, List.setIfInBounds_toArray, List.set_cons_zero, List.set_cons_succ])
                refine wpAnyH_take (i := 22) (oi := ⟨some 5, _, _, _, _, _⟩) (v := ?_) rfl (by kernel_rfl) (by kernel_rfl) (by kernel_rfl) (fun _ _ _ h => h) (Or.inl ⟨by kernel_rfl, ?_⟩) (by assumption) ?_
                rotate_left
                · (intro w hSw; (try dsimp only at hSw); go_simp; (first | done | with_reducible rfl))
                (try simp only [Act.put, List.setIfInBounds_toArray, List.set_cons_zero, List.set_cons_succ])
                refine wpAnyH_done (by kernel_rfl) ?_ _
                have hb3 : Below w1.heap.size w1 w2 := by
                  first
                  | exact (((HW.out.2.1.alloc hws _).alloc (by simp; omega) _).alloc (by simp; omega) _).grown hg2 (by simp; omega) (fun q hq => by obtain ⟨_, _, _, hb⟩ := owns_form HW.out.1; exact (hb q hq).1)
                  | exact ((((HW.out.2.1.alloc hws _).alloc (by simp; omega) _).alloc (by simp; omega) _).drew).grown hg2 (by simp; omega) (fun q hq => by obtain ⟨_, _, _, hb⟩ := owns_form HW.out.1; exact (hb q hq).1)
                have H3 : Hid (w2.ownsRow w1.heap.size 9 1 (.slice (some ⟨g, 0, none⟩) (k + 1) cap) (k + 1) ((linesB x2 0 (ls.take (k + 1))).map Value.string) ∧ Below w1.heap.size w1 w2 ∧ ∀ r ∈ ls.take (k + 1), r ≠ [] ∧ r.length ≤ 50) := HL3.out ho2 hb3
                clear ho2 hg2 hat2 hl2 hb3
                go_wp2
                go_roundg (gO - 1)
                case measure => omega
                case rel => exact ⟨k + 1, by omega, by go_num, by rw [HVA.out], by first | exact H3.out | exact ⟨H3.out.1, H3.out.2.1.drew, H3.out.2.2⟩⟩
              refine AllReadyH.cons (o := ⟨some 92, _, _, _, _, _⟩) rfl (fun K hK => ?_) AllReadyH.nil
              go_simp
              refine hK.out _ _ ?_ (fun hHeld2 => ?_)
              · (try dsimp only)
                all_goals trivial
              clear hK K hHeld1
              (try simp only [Act.put, List.setIfInBounds_toArray, List.set_cons_zero, List.set_cons_succ])
              refine wpAnyH_take (i := 17) (oi := ⟨some 98, _, _, _, _, _⟩) (v := ?_) rfl (by kernel_rfl) (by kernel_rfl) (by kernel_rfl) (fun _ _ _ h => h) (Or.inl ⟨by kernel_rfl, ?_⟩) (by assumption) ?_
              rotate_left
              · (intro w hSw; (try dsimp only at hSw); go_simp; (first | done | with_reducible rfl))
              (try simp only [Act.put, List.setIfInBounds_toArray, List.set_cons_zero, List.set_cons_succ])
              refine wpAnyH_ready (rs := [8, 18]) (by kernel_rfl) (by simp) ?_
              refine AllReadyH.cons (o := ⟨some 89, _, _, _, _, _⟩) rfl (fun K hK => ?_) ?_
              · skip
                go_simp
                try simp only [hla]
                refine hK.out _ _ ?_ (fun hHeld3 => ?_)
                · (try dsimp only)
                  all_goals trivial
                clear hK K hHeld2
                (try simp only [Act.put, List.setIfInBounds_toArray, List.set_cons_zero, List.set_cons_succ])
                refine wpAnyH_take (i := 10) (oi := ⟨some 91, _, _, _, _, _⟩) (v := ?_) rfl (by kernel_rfl) (by kernel_rfl) (by kernel_rfl) (fun _ _ _ h => h) (Or.inl ⟨by kernel_rfl, ?_⟩) (by assumption) ?_
                rotate_left
                · (intro w hSw; (try dsimp only at hSw); go_simp; (first | done | with_reducible rfl))
                (try simp only [Act.put, List.setIfInBounds_toArray, List.set_cons_zero, List.set_cons_succ])
                refine wpAnyH_ready (rs := [18]) (by kernel_rfl) (by simp) ?_
                refine AllReadyH.cons (o := ⟨some 99, _, _, _, _, _⟩) rfl (fun K hK => ?_) AllReadyH.nil
                go_simp
                try simp only [hlb]
                refine hK.out _ _ ?_ (fun hHeld4 => ?_)
                · (try dsimp only)
                  all_goals trivial
                clear hK K hHeld3
                (try simp only [Act.put, List.setIfInBounds_toArray, List.set_cons_zero, List.set_cons_succ])
                refine wpAnyH_take (i := 19) (oi := ⟨some 100, _, _, _, _, _⟩) (v := ?_) rfl (by kernel_rfl) (by kernel_rfl) (by kernel_rfl) (fun _ _ _ h => h) (Or.inl ⟨by kernel_rfl, ?_⟩) (by assumption) ?_
                rotate_left
                · (intro w hSw; (try dsimp only at hSw); go_simp; (first | done | with_reducible rfl))
                (try simp only [Act.put, List.setIfInBounds_toArray, List.set_cons_zero, List.set_cons_succ])
                refine wpAnyH_ready (rs := [20]) (by kernel_rfl) (by simp) ?_
                refine AllReadyH.cons (o := ⟨some 101, _, _, _, _, _⟩) rfl (fun K hK => ?_) AllReadyH.nil
                go_simp
                refine hK.out _ _ ?_ (fun hHeld5 => ?_)
                · (try dsimp only)
                  all_goals trivial
                clear hK K hHeld4
                (try simp only [Act.put, List.setIfInBounds_toArray, List.set_cons_zero, List.set_cons_succ])
                refine wpAnyH_ready (rs := [21]) (by kernel_rfl) (by simp) ?_
                refine AllReadyH.cons (o := ⟨some 102, _, _, _, _, _⟩) rfl (fun K hK => ?_) AllReadyH.nil
                refine step_append_lies _ (by rfl) _ _ _ (by rfl) w1.heap.size 9 i0 _ 1 16 Tryz.underlying22 hi0 hz0 hz1 hz2 rfl (by omega) (.slice TA k tc) k ((linesB x2 0 (ls.take k)).map Value.string) (by rfl) (by first | exact ((HW.out.1.alloc _).alloc _).alloc _ | exact (((HW.out.1.alloc _).alloc _).alloc _).drew) _ 1 1 [.string ((pa ++ sw) ++ pb)] (by rfl) (by rfl) (by first | exact news3 _ _ _ _ | exact news3d _ _ _ _) (by intro u hu; rw [List.mem_singleton] at hu; subst hu; rfl) (by omega) (by unfold maxLen; omega) (by omega) (by simp; omega) _ rfl ?_
                intro g cap w2 ho2 hg2 hat2 hl2
                refine hK.out _ _ ?_ (fun hHeld6 => ?_)
                · (try dsimp only)
                  all_goals trivial
                clear hK K hHeld5
                (try simp only [Act.put, List.setIfInBounds_toArray, List.set_cons_zero, List.set_cons_succ])
                refine wpAnyH_take (i := 22) (oi := ⟨some 5, _, _, _, _, _⟩) (v := ?_) rfl (by kernel_rfl) (by kernel_rfl) (by kernel_rfl) (fun _ _ _ h => h) (Or.inl ⟨by kernel_rfl, ?_⟩) (by assumption) ?_
                rotate_left
                · (intro w hSw; (try dsimp only at hSw); go_simp; (first | done | with_reducible rfl))
                (try simp only [Act.put, List.setIfInBounds_toArray, List.set_cons_zero, List.set_cons_succ])
                refine wpAnyH_done (by kernel_rfl) ?_ _
                have hb3 : Below w1.heap.size w1 w2 := by
                  first
                  | exact (((HW.out.2.1.alloc hws _).alloc (by simp; omega) _).alloc (by simp; omega) _).grown hg2 (by simp; omega) (fun q hq => by obtain ⟨_, _, _, hb⟩ := owns_form HW.out.1; exact (hb q hq).1)
                  | exact ((((HW.out.2.1.alloc hws _).alloc (by simp; omega) _).alloc (by simp; omega) _).drew).grown hg2 (by simp; omega) (fun q hq => by obtain ⟨_, _, _, hb⟩ := owns_form HW.out.1; exact (hb q hq).1)
                have H3 : Hid (w2.ownsRow w1.heap.size 9 1 (.slice (some ⟨g, 0, none⟩) (k + 1) cap) (k + 1) ((linesB x2 0 (ls.take (k + 1))).map Value.string) ∧ Below w1.heap.size w1 w2 ∧ ∀ r ∈ ls.take (k + 1), r ≠ [] ∧ r.length ≤ 50) := HL3.out ho2 hb3
                clear ho2 hg2 hat2 hl2 hb3
                go_wp2
                go_roundg (gO - 1)
                case measure => omega
                case rel => exact ⟨k + 1, by omega, by go_num, by rw [HVA.out], by first | exact H3.out | exact ⟨H3.out.1, H3.out.2.1.drew, H3.out.2.2⟩⟩
              refine AllReadyH.cons (o := ⟨some 99, _, _, _, _, _⟩) rfl (fun K hK => ?_) AllReadyH.nil
              go_simp
              try simp only [hlb]
              refine hK.out _ _ ?_ (fun hHeld3 => ?_)
              · (try dsimp only)
                all_goals trivial
              clear hK K hHeld2
              (try simp only [Act.put, List.setIfInBounds_toArray, List.set_cons_zero, List.set_cons_succ])
              refine wpAnyH_ready (rs := [8]) (by kernel_rfl) (by simp) ?_
              refine AllReadyH.cons (o := ⟨some 89, _, _, _, _, _⟩) rfl (fun K hK => ?_) AllReadyH.nil
              go_simp
              try simp only [hla]
              refine hK.out _ _ ?_ (fun hHeld4 => ?_)
              · (try dsimp only)
                all_goals trivial
              clear hK K hHeld3
              (try simp only [Act.put, List.setIfInBounds_toArray, List.set_cons_zero, List.set_cons_succ])
              refine wpAnyH_take (i := 10) (oi := ⟨some 91, _, _, _, _, _⟩) (v := ?_) rfl (by kernel_rfl) (by kernel_rfl) (by kernel_rfl) (fun _ _ _ h => h) (Or.inl ⟨by kernel_rfl, ?_⟩) (by assumption) ?_
              rotate_left
              · (intro w hSw; (try dsimp only at hSw); go_simp; (first | done | with_reducible rfl))
              (try simp only [Act.put, List.setIfInBounds_toArray, List.set_cons_zero, List.set_cons_succ])
              refine wpAnyH_take (i := 19) (oi := ⟨some 100, _, _, _, _, _⟩) (v := ?_) rfl (by kernel_rfl) (by kernel_rfl) (by kernel_rfl) (fun _ _ _ h => h) (Or.inl ⟨by kernel_rfl, ?_⟩) (by assumption) ?_
              rotate_left
              · (intro w hSw; (try dsimp only at hSw); go_simp; (first | done | with_reducible rfl))
              (try simp only [Act.put, List.setIfInBounds_toArray, List.set_cons_zero, List.set_cons_succ])
              refine wpAnyH_ready (rs := [20]) (by kernel_rfl) (by simp) ?_
              refine AllReadyH.cons (o := ⟨some 101, _, _, _, _, _⟩) rfl (fun K hK => ?_) AllReadyH.nil
              go_simp
              refine hK.out _ _ ?_ (fun hHeld5 => ?_)
              · (try dsimp only)
                all_goals trivial
              clear hK K hHeld4
              (try simp only [Act.put, List.setIfInBounds_toArray, List.set_cons_zero, List.set_cons_succ])
              refine wpAnyH_ready (rs := [21]) (by kernel_rfl) (by simp) ?_
              refine AllReadyH.cons (o := ⟨some 102, _, _, _, _, _⟩) rfl (fun K hK => ?_) AllReadyH.nil
              refine step_append_lies _ (by rfl) _ _ _ (by rfl) w1.heap.size 9 i0 _ 1 16 Tryz.underlying22 hi0 hz0 hz1 hz2 rfl (by omega) (.slice TA k tc) k ((linesB x2 0 (ls.take k)).map Value.string) (by rfl) (by first | exact ((HW.out.1.alloc _).alloc _).alloc _ | exact (((HW.out.1.alloc _).alloc _).alloc _).drew) _ 1 1 [.string ((pa ++ sw) ++ pb)] (by rfl) (by rfl) (by first | exact news3 _ _ _ _ | exact news3d _ _ _ _) (by intro u hu; rw [List.mem_singleton] at hu; subst hu; rfl) (by omega) (by unfold maxLen; omega) (by omega) (by simp; omega) _ rfl ?_
              intro g cap w2 ho2 hg2 hat2 hl2
              refine hK.out _ _ ?_ (fun hHeld6 => ?_)
              · (try dsimp only)
                all_goals trivial
              clear hK K hHeld5
              (try simp only [Act.put, List.setIfInBounds_toArray, List.set_cons_zero, List.set_cons_succ])
              refine wpAnyH_take (i := 22) (oi := ⟨some 5, _, _, _, _, _⟩) (v := ?_) rfl (by kernel_rfl) (by kernel_rfl) (by kernel_rfl) (fun _ _ _ h => h) (Or.inl ⟨by kernel_rfl, ?_⟩) (by assumption) ?_
              rotate_left
              · (intro w hSw; (try dsimp only at hSw); go_simp; (first | done | with_reducible rfl))
              (try simp only [Act.put, List.setIfInBounds_toArray, List.set_cons_zero, List.set_cons_succ])
              refine wpAnyH_done (by kernel_rfl) ?_ _
              have hb3 : Below w1.heap.size w1 w2 := by
                first
                | exact (((HW.out.2.1.alloc hws _).alloc (by simp; omega) _).alloc (by simp; omega) _).grown hg2 (by simp; omega) (fun q hq => by obtain ⟨_, _, _, hb⟩ := owns_form HW.out.1; exact (hb q hq).1)
                | exact ((((HW.out.2.1.alloc hws _).alloc (by simp; omega) _).alloc (by simp; omega) _).drew).grown hg2 (by simp; omega) (fun q hq => by obtain ⟨_, _, _, hb⟩ := owns_form HW.out.1; exact (hb q hq).1)
              have H3 : Hid (w2.ownsRow w1.heap.size 9 1 (.slice (some ⟨g, 0, none⟩) (k + 1) cap) (k + 1) ((linesB x2 0 (ls.take (k + 1))).map Value.string) ∧ Below w1.heap.size w1 w2 ∧ ∀ r ∈ ls.take (k + 1), r ≠ [] ∧ r.length ≤ 50) := HL3.out ho2 hb3
              clear ho2 hg2 hat2 hl2 hb3
              go_wp2
              go_roundg (gO - 1)
              case measure => omega
              case rel => exact ⟨k + 1, by omega, by go_num, by rw [HVA.out], by first | exact H3.out | exact ⟨H3.out.1, H3.out.2.1.drew, H3.out.2.2⟩⟩
            refine AllReadyH.cons (o := ⟨some 92, _, _, _, _, _⟩) rfl (fun K hK => ?_) AllReadyH.nil
            go_simp
            refine hK.out _ _ ?_ (fun hHeld1 => ?_)
            · (try dsimp only)
              all_goals trivial
            clear hK K hHeld0
            (try simp only [Act.put, List.setIfInBounds_toArray, List.set_cons_zero, List.set_cons_succ])
            refine wpAnyH_take (i := 17) (oi := ⟨some 98, _, _, _, _, _⟩) (v := ?_) rfl (by kernel_rfl) (by kernel_rfl) (by kernel_rfl) (fun _ _ _ h => h) (Or.inl ⟨by kernel_rfl, ?_⟩) (by assumption) ?_
            rotate_left
            · (intro w hSw; (try dsimp only at hSw); go_simp; (first | done | with_reducible rfl))
            (try simp only [Act.put, List.setIfInBounds_toArray, List.set_cons_zero, List.set_cons_succ])
            refine wpAnyH_ready (rs := [1, 18]) (by kernel_rfl) (by simp) ?_
            refine AllReadyH.cons (o := ⟨some 82, _, _, _, _, _⟩) rfl (fun K hK => ?_) ?_
            · skip
              go_simp
              refine hK.out _ _ ?_ (fun hHeld2 => ?_)
              · (try dsimp only)
                all_goals trivial
              clear hK K hHeld1
              (try simp only [Act.put, List.setIfInBounds_toArray, List.set_cons_zero, List.set_cons_succ])
              refine wpAnyH_take (i := 7) (oi := ⟨some 88, _, _, _, _, _⟩) (v := ?_) rfl (by kernel_rfl) (by kernel_rfl) (by kernel_rfl) (fun _ _ _ h => h) (Or.inl ⟨by kernel_rfl, ?_⟩) (by assumption) ?_
              rotate_left
              · (intro w hSw; (try dsimp only at hSw); go_simp; (first | done | with_reducible rfl))
              (try simp only [Act.put, List.setIfInBounds_toArray, List.set_cons_zero, List.set_cons_succ])
              refine wpAnyH_ready (rs := [8, 18]) (by kernel_rfl) (by simp) ?_
              refine AllReadyH.cons (o := ⟨some 89, _, _, _, _, _⟩) rfl (fun K hK => ?_) ?_
              · skip
                go_simp
                try simp only [hla]
                refine hK.out _ _ ?_ (fun hHeld3 => ?_)
                · (try dsimp only)
                  all_goals trivial
                clear hK K hHeld2
                (try simp only [Act.put, List.setIfInBounds_toArray, List.set_cons_zero, List.set_cons_succ])
                refine wpAnyH_take (i := 10) (oi := ⟨some 91, _, _, _, _, _⟩) (v := ?_) rfl (by kernel_rfl) (by kernel_rfl) (by kernel_rfl) (fun _ _ _ h => h) (Or.inl ⟨by kernel_rfl, ?_⟩) (by assumption) ?_
                rotate_left
                · (intro w hSw; (try dsimp only at hSw); go_simp; (first | done | with_reducible rfl))
                (try simp only [Act.put, List.setIfInBounds_toArray, List.set_cons_zero, List.set_cons_succ])
                refine wpAnyH_ready (rs := [18]) (by kernel_rfl) (by simp) ?_
                refine AllReadyH.cons (o := ⟨some 99, _, _, _, _, _⟩) rfl (fun K hK => ?_) AllReadyH.nil
                go_simp
                try simp only [hlb]
                refine hK.out _ _ ?_ (fun hHeld4 => ?_)
                · (try dsimp only)
                  all_goals trivial
                clear hK K hHeld3
                (try simp only [Act.put, List.setIfInBounds_toArray, List.set_cons_zero, List.set_cons_succ])
                refine wpAnyH_take (i := 19) (oi := ⟨some 100, _, _, _, _, _⟩) (v := ?_) rfl (by kernel_rfl) (by kernel_rfl) (by kernel_rfl) (fun _ _ _ h => h) (Or.inl ⟨by kernel_rfl, ?_⟩) (by assumption) ?_
                rotate_left
                · (intro w hSw; (try dsimp only at hSw); go_simp; (first | done | with_reducible rfl))
                (try simp only [Act.put, List.setIfInBounds_toArray, List.set_cons_zero, List.set_cons_succ])
                refine wpAnyH_ready (rs := [20]) (by kernel_rfl) (by simp) ?_
                refine AllReadyH.cons (o := ⟨some 101, _, _, _, _, _⟩) rfl (fun K hK => ?_) AllReadyH.nil
                go_simp
                refine hK.out _ _ ?_ (fun hHeld5 => ?_)
                · (try dsimp only)
                  all_goals trivial
                clear hK K hHeld4
                (try simp only [Act.put, List.setIfInBounds_toArray, List.set_cons_zero, List.set_cons_succ])
                refine wpAnyH_ready (rs := [21]) (by kernel_rfl) (by simp) ?_
                refine AllReadyH.cons (o := ⟨some 102, _, _, _, _, _⟩) rfl (fun K hK => ?_) AllReadyH.nil
                refine step_append_lies _ (by rfl) _ _ _ (by rfl) w1.heap.size 9 i0 _ 1 16 Tryz.underlying22 hi0 hz0 hz1 hz2 rfl (by omega) (.slice TA k tc) k ((linesB x2 0 (ls.take k)).map Value.string) (by rfl) (by first | exact ((HW.out.1.alloc _).alloc _).alloc _ | exact (((HW.out.1.alloc _).alloc _).alloc _).drew) _ 1 1 [.string ((pa ++ sw) ++ pb)] (by rfl) (by rfl) (by first | exact news3 _ _ _ _ | exact news3d _ _ _ _) (by intro u hu; rw [List.mem_singleton] at hu; subst hu; rfl) (by omega) (by unfold maxLen; omega) (by omega) (by simp; omega) _ rfl ?_
                intro g cap w2 ho2 hg2 hat2 hl2
                refine hK.out _ _ ?_ (fun hHeld6 => ?_)
                · (try dsimp only)
                  all_goals trivial
                clear hK K hHeld5
                (try simp only [Act.put, List.setIfInBounds_toArray, List.set_cons_zero, List.set_cons_succ])
                refine wpAnyH_take (i := 22) (oi := ⟨some 5, _, _, _, _, _⟩) (v := ?_) rfl (by kernel_rfl) (by kernel_rfl) (by kernel_rfl) (fun _ _ _ h => h) (Or.inl ⟨by kernel_rfl, ?_⟩) (by assumption) ?_
                rotate_left
                · (intro w hSw; (try dsimp only at hSw); go_simp; (first | done | with_reducible rfl))
                (try simp only [Act.put, List.setIfInBounds_toArray, List.set_cons_zero, List.set_cons_succ])
                refine wpAnyH_done (by kernel_rfl) ?_ _
                have hb3 : Below w1.heap.size w1 w2 := by
                  first
                  | exact (((HW.out.2.1.alloc hws _).alloc (by simp; omega) _).alloc (by simp; omega) _).grown hg2 (by simp; omega) (fun q hq => by obtain ⟨_, _, _, hb⟩ := owns_form HW.out.1; exact (hb q hq).1)
                  | exact ((((HW.out.2.1.alloc hws _).alloc (by simp; omega) _).alloc (by simp; omega) _).drew).grown hg2 (by simp; omega) (fun q hq => by obtain ⟨_, _, _, hb⟩ := owns_form HW.out.1; exact (hb q hq).1)
                have H3 : Hid (w2.ownsRow w1.heap.size 9 1 (.slice (some ⟨g, 0, none⟩) (k + 1) cap) (k + 1) ((linesB x2 0 (ls.take (k + 1))).map Value.string) ∧ Below w1.heap.size w1 w2 ∧ ∀ r ∈ ls.take (k + 1), r ≠ [] ∧ r.length ≤ 50) := HL3.out ho2 hb3
                clear ho2 hg2 hat2 hl2 hb3
                go_wp2
                go_roundg (gO - 1)
                case measure => omega
                case rel => exact ⟨k + 1, by omega, by go_num, by rw [HVA.out], by first | exact H3.out | exact ⟨H3.out.1, H3.out.2.1.drew, H3.out.2.2⟩⟩
              refine AllReadyH.cons (o := ⟨some 99, _, _, _, _, _⟩) rfl (fun K hK => ?_) AllReadyH.nil
              go_simp
              try simp only [hlb]
              refine hK.out _ _ ?_ (fun hHeld3 => ?_)
              · (try dsimp only)
                all_goals trivial
              clear hK K hHeld2
              (try simp only [Act.put, List.setIfInBounds_toArray, List.set_cons_zero, List.set_cons_succ])
              refine wpAnyH_ready (rs := [8]) (by kernel_rfl) (by simp) ?_
              refine AllReadyH.cons (o := ⟨some 89, _, _, _, _, _⟩) rfl (fun K hK => ?_) AllReadyH.nil
              go_simp
              try simp only [hla]
              refine hK.out _ _ ?_ (fun hHeld4 => ?_)
              · (try dsimp only)
                all_goals trivial
              clear hK K hHeld3
              (try simp only [Act.put, List.setIfInBounds_toArray, List.set_cons_zero, List.set_cons_succ])
              refine wpAnyH_take (i := 10) (oi := ⟨some 91, _, _, _, _, _⟩) (v := ?_) rfl (by kernel_rfl) (by kernel_rfl) (by kernel_rfl) (fun _ _ _ h => h) (Or.inl ⟨by kernel_rfl, ?_⟩) (by assumption) ?_
              rotate_left
              · (intro w hSw; (try dsimp only at hSw); go_simp; (first | done | with_reducible rfl))
              (try simp only [Act.put, List.setIfInBounds_toArray, List.set_cons_zero, List.set_cons_succ])
              refine wpAnyH_take (i := 19) (oi := ⟨some 100, _, _, _, _, _⟩) (v := ?_) rfl (by kernel_rfl) (by kernel_rfl) (by kernel_rfl) (fun _ _ _ h => h) (Or.inl ⟨by kernel_rfl, ?_⟩) (by assumption) ?_
              rotate_left
              · (intro w hSw; (try dsimp only at hSw); go_simp; (first | done | with_reducible rfl))
              (try simp only [Act.put, List.setIfInBounds_toArray, List.set_cons_zero, List.set_cons_succ])
              refine wpAnyH_ready (rs := [20]) (by kernel_rfl) (by simp) ?_
              refine AllReadyH.cons (o := ⟨some 101, _, _, _, _, _⟩) rfl (fun K hK => ?_) AllReadyH.nil
              go_simp
              refine hK.out _ _ ?_ (fun hHeld5 => ?_)
              · (try dsimp only)
                all_goals trivial
              clear hK K hHeld4
              (try simp only [Act.put, List.setIfInBounds_toArray, List.set_cons_zero, List.set_cons_succ])
              refine wpAnyH_ready (rs := [21]) (by kernel_rfl) (by simp) ?_
              refine AllReadyH.cons (o := ⟨some 102, _, _, _, _, _⟩) rfl (fun K hK => ?_) AllReadyH.nil
              refine step_append_lies _ (by rfl) _ _ _ (by rfl) w1.heap.size 9 i0 _ 1 16 Tryz.underlying22 hi0 hz0 hz1 hz2 rfl (by omega) (.slice TA k tc) k ((linesB x2 0 (ls.take k)).map Value.string) (by rfl) (by first | exact ((HW.out.1.alloc _).alloc _).alloc _ | exact (((HW.out.1.alloc _).alloc _).alloc _).drew) _ 1 1 [.string ((pa ++ sw) ++ pb)] (by rfl) (by rfl) (by first | exact news3 _ _ _ _ | exact news3d _ _ _ _) (by intro u hu; rw [List.mem_singleton] at hu; subst hu; rfl) (by omega) (by unfold maxLen; omega) (by omega) (by simp; omega) _ rfl ?_
              intro g cap w2 ho2 hg2 hat2 hl2
              refine hK.out _ _ ?_ (fun hHeld6 => ?_)
              · (try dsimp only)
                all_goals trivial
              clear hK K hHeld5
              (try simp only [Act.put, List.setIfInBounds_toArray, List.set_cons_zero, List.set_cons_succ])
              refine wpAnyH_take (i := 22) (oi := ⟨some 5, _, _, _, _, _⟩) (v := ?_) rfl (by kernel_rfl) (by kernel_rfl) (by kernel_rfl) (fun _ _ _ h => h) (Or.inl ⟨by kernel_rfl, ?_⟩) (by assumption) ?_
              rotate_left
              · (intro w hSw; (try dsimp only at hSw); go_simp; (first | done | with_reducible rfl))
              (try simp only [Act.put, List.setIfInBounds_toArray, List.set_cons_zero, List.set_cons_succ])
              refine wpAnyH_done (by kernel_rfl) ?_ _
              have hb3 : Below w1.heap.size w1 w2 := by
                first
                | exact (((HW.out.2.1.alloc hws _).alloc (by simp; omega) _).alloc (by simp; omega) _).grown hg2 (by simp; omega) (fun q hq => by obtain ⟨_, _, _, hb⟩ := owns_form HW.out.1; exact (hb q hq).1)
                | exact ((((HW.out.2.1.alloc hws _).alloc (by simp; omega) _).alloc (by simp; omega) _).drew).grown hg2 (by simp; omega) (fun q hq => by obtain ⟨_, _, _, hb⟩ := owns_form HW.out.1; exact (hb q hq).1)
              have H3 : Hid (w2.ownsRow w1.heap.size 9 1 (.slice (some ⟨g, 0, none⟩) (k + 1) cap) (k + 1) ((linesB x2 0 (ls.take (k + 1))).map Value.string) ∧ Below w1.heap.size w1 w2 ∧ ∀ r ∈ ls.take (k + 1), r ≠ [] ∧ r.length ≤ 50) := HL3.out ho2 hb3
              clear ho2 hg2 hat2 hl2 hb3
              go_wp2
              go_roundg (gO - 1)
              case measure => omega
              case rel => exact ⟨k + 1, by omega, by go_num, by rw [HVA.out], by first | exact H3.out | exact ⟨H3.out.1, H3.out.2.1.drew, H3.out.2.2⟩⟩
            refine AllReadyH.cons (o := ⟨some 99, _, _, _, _, _⟩) rfl (fun K hK => ?_) AllReadyH.nil
            go_simp
            try simp only [hlb]
            refine hK.out _ _ ?_ (fun hHeld2 => ?_)
            · (try dsimp only)
              all_goals trivial
            clear hK K hHeld1
            (try simp only [Act.put, List.setIfInBounds_toArray, List.set_cons_zero, List.set_cons_succ])
            refine wpAnyH_ready (rs := [1]) (by kernel_rfl) (by simp) ?_
            refine AllReadyH.cons (o := ⟨some 82, _, _, _, _, _⟩) rfl (fun K hK => ?_) AllReadyH.nil
            go_simp
            refine hK.out _ _ ?_ (fun hHeld3 => ?_)
            · (try dsimp only)
              all_goals trivial
            clear hK K hHeld2
            (try simp only [Act.put, List.setIfInBounds_toArray, List.set_cons_zero, List.set_cons_succ])
            refine wpAnyH_take (i := 7) (oi := ⟨some 88, _, _, _, _, _⟩) (v := ?_) rfl (by kernel_rfl) (by kernel_rfl) (by kernel_rfl) (fun _ _ _ h => h) (Or.inl ⟨by kernel_rfl, ?_⟩) (by assumption) ?_
            rotate_left
            · (intro w hSw; (try dsimp only at hSw); go_simp; (first | done | with_reducible rfl))
            (try simp only [Act.put, List.setIfInBounds_toArray, List.set_cons_zero, List.set_cons_succ])
            refine wpAnyH_ready (rs := [8]) (by kernel_rfl) (by simp) ?_
            refine AllReadyH.cons (o := ⟨some 89, _, _, _, _, _⟩) rfl (fun K hK => ?_) AllReadyH.nil
            go_simp
            try simp only [hla]
            refine hK.out _ _ ?_ (fun hHeld4 => ?_)
            · (try dsimp only)
              all_goals trivial
            clear hK K hHeld3
            (try simp only [Act.put, List.setIfInBounds_toArray, List.set_cons_zero, List.set_cons_succ])
            refine wpAnyH_take (i := 10) (oi := ⟨some 91, _, _, _, _, _⟩) (v := ?_) rfl (by kernel_rfl) (by kernel_rfl) (by kernel_rfl) (fun _ _ _ h => h) (Or.inl ⟨by kernel_rfl, ?_⟩) (by assumption) ?_
            rotate_left
            · (intro w hSw; (try dsimp only at hSw); go_simp; (first | done | with_reducible rfl))
            (try simp only [Act.put, List.setIfInBounds_toArray, List.set_cons_zero, List.set_cons_succ])
            refine wpAnyH_take (i := 19) (oi := ⟨some 100, _, _, _, _, _⟩) (v := ?_) rfl (by kernel_rfl) (by kernel_rfl) (by kernel_rfl) (fun _ _ _ h => h) (Or.inl ⟨by kernel_rfl, ?_⟩) (by assumption) ?_
            rotate_left
            · (intro w hSw; (try dsimp only at hSw); go_simp; (first | done | with_reducible rfl))
            (try simp only [Act.put, List.setIfInBounds_toArray, List.set_cons_zero, List.set_cons_succ])
            refine wpAnyH_ready (rs := [20]) (by kernel_rfl) (by simp) ?_
            refine AllReadyH.cons (o := ⟨some 101, _, _, _, _, _⟩) rfl (fun K hK => ?_) AllReadyH.nil
            go_simp
            refine hK.out _ _ ?_ (fun hHeld5 => ?_)
            · (try dsimp only)
              all_goals trivial
            clear hK K hHeld4
            (try simp only [Act.put, List.setIfInBounds_toArray, List.set_cons_zero, List.set_cons_succ])
            refine wpAnyH_ready (rs := [21]) (by kernel_rfl) (by simp) ?_
            refine AllReadyH.cons (o := ⟨some 102, _, _, _, _, _⟩) rfl (fun K hK => ?_) AllReadyH.nil
            refine step_append_lies _ (by rfl) _ _ _ (by rfl) w1.heap.size 9 i0 _ 1 16 Tryz.underlying22 hi0 hz0 hz1 hz2 rfl (by omega) (.slice TA k tc) k ((linesB x2 0 (ls.take k)).map Value.string) (by rfl) (by first | exact ((HW.out.1.alloc _).alloc _).alloc _ | exact (((HW.out.1.alloc _).alloc _).alloc _).drew) _ 1 1 [.string ((pa ++ sw) ++ pb)] (by rfl) (by rfl) (by first | exact news3 _ _ _ _ | exact news3d _ _ _ _) (by intro u hu; rw [List.mem_singleton] at hu; subst hu; rfl) (by omega) (by unfold maxLen; omega) (by omega) (by simp; omega) _ rfl ?_
            intro g cap w2 ho2 hg2 hat2 hl2
            refine hK.out _ _ ?_ (fun hHeld6 => ?_)
            · (try dsimp only)
              all_goals trivial
            clear hK K hHeld5
            (try simp only [Act.put, List.setIfInBounds_toArray, List.set_cons_zero, List.set_cons_succ])
            refine wpAnyH_take (i := 22) (oi := ⟨some 5, _, _, _, _, _⟩) (v := ?_) rfl (by kernel_rfl) (by kernel_rfl) (by kernel_rfl) (fun _ _ _ h => h) (Or.inl ⟨by kernel_rfl, ?_⟩) (by assumption) ?_
            rotate_left
            · (intro w hSw; (try dsimp only at hSw); go_simp; (first | done | with_reducible rfl))
            (try simp only [Act.put, List.setIfInBounds_toArray, List.set_cons_zero, List.set_cons_succ])
            refine wpAnyH_done (by kernel_rfl) ?_ _
            have hb3 : Below w1.heap.size w1 w2 := by
              first
              | exact (((HW.out.2.1.alloc hws _).alloc (by simp; omega) _).alloc (by simp; omega) _).grown hg2 (by simp; omega) (fun q hq => by obtain ⟨_, _, _, hb⟩ := owns_form HW.out.1; exact (hb q hq).1)
              | exact ((((HW.out.2.1.alloc hws _).alloc (by simp; omega) _).alloc (by simp; omega) _).drew).grown hg2 (by simp; omega) (fun q hq => by obtain ⟨_, _, _, hb⟩ := owns_form HW.out.1; exact (hb q hq).1)
            have H3 : Hid (w2.ownsRow w1.heap.size 9 1 (.slice (some ⟨g, 0, none⟩) (k + 1) cap) (k + 1) ((linesB x2 0 (ls.take (k + 1))).map Value.string) ∧ Below w1.heap.size w1 w2 ∧ ∀ r ∈ ls.take (k + 1), r ≠ [] ∧ r.length ≤ 50) := HL3.out ho2 hb3
            clear ho2 hg2 hat2 hl2 hb3
            go_wp2
            go_roundg (gO - 1)
            case measure => omega
            case rel => exact ⟨k + 1, by omega, by go_num, by rw [HVA.out], by first | exact H3.out | exact ⟨H3.out.1, H3.out.2.1.drew, H3.out.2.2⟩⟩
    · obtain rfl : k = n := by omega
      have H := HK.out
      rw [List.take_of_length_le (by have := HN.out; omega)] at H ⊢
      have hLAW := paras_told (x2 := x2) (fun r hr => (H.2.2 r hr).1) (fun e => c0 (by rw [← HN.out, e]; rfl))
      obtain ⟨ts, hts⟩ : ∃ ts, linesB x2 0 ls = ts := ⟨_, rfl⟩
      have htl : ts.length = k := by rw [← hts, linesB_length]; exact HN.out
      have hwt := linesB_wt x2 0 ls (fun r hr => (H.2.2 r hr).2)
      have hal := allB_size ls (fun r hr => (H.2.2 r hr).2)
      rw [hts, HN.out] at hwt
      rw [HN.out] at hal
      rw [hts] at H hLAW
      obtain ⟨al, hal2⟩ : ∃ al, allB ls = al := ⟨_, rfl⟩
      rw [hal2] at hal hLAW ⊢
      have hs1 := HB1.out.size
      have hbw := HB1.out.trans (H.2.1.mono hs1)
      have hR1 : Rd wr wr.heap.size (.slice TA k tc) (ts.map Value.string) := own_rd H.1
      have CO := of_any hR1 (Nat.le_refl _) (by omega)
      have HL := Lib.hid hLAW
      have H1 := Lib.hid hbw
      clear hts hLAW H hbw hR1 hal2
      go_wp2_with fail
      refine CO.mono ?_
      clear CO
      rintro e w2 ⟨lv, rfl, ho, hb2⟩
      have hB2 := H1.out.trans (hb2.mono H1.out.size)
      have CP := parsed_any (xs := ts) (HM.out.below hB2) (by omega) ho hb2
      have H2 := Lib.hid hB2
      clear ho hb2 hB2
      go_wp2_with fail
      refine CP.mono ?_
      clear CP
      rintro e w3 ⟨⟨O, F1, rb, lv2, bv, dv, rfl, hr, _, _⟩, hb3⟩
      have hB3 := H2.out.trans (hb3.mono H2.out.size)
      obtain ⟨BA, bc, rfl⟩ := hr.bform
      obtain ⟨DA, dc, rfl⟩ := hr.dform
      obtain ⟨hd0, bb, hbb, hk2, hl2, hsp⟩ := HL.out
      rw [hd0, hbb] at hr ⊢
      obtain ⟨ga, sA, sc, rA, rc, rfl, _, fa, _, a0, a1, a2, a3, a4, a5, a6, a7, a8⟩ := hr.blk_at (j := 0) (x := bb) rfl
      have sl : ∀ b, F1 b → b < w3.heap.size := hr.ltF
      rw [hsp] at fa a5
      rw [hk2] at a0
      rw [hl2] at a8
      have fa' : Forest w3 (· < w3.heap.size) (.slice sA 1 sc) [txt al.data.toList] := fa.chg (Chg.refl w3 (fun _ => False)) sl (fun _ _ h => h)
      have many : manyL [txt al.data.toList] ≤ 1000000000 := by simp [manyL, many1, txt]
      have E1 : (⟨al.data.toList.toArray⟩ : ByteArray) = al := ba_ext (by simp)
      have P1 := Plain_any [txt al.data.toList] many (by rw [say_txt]; have := size_list al; omega) _ w3 fa'
      rw [say_txt, E1] at P1
      simp only [List.length_cons, List.length_nil, Nat.zero_mul, Nat.zero_add] at a0 a5 a8 ⊢
      have H3 := Lib.hid hB3
      clear hr hb3 hB3 hd0 hbb hk2 hl2 hsp fa fa' sl many E1 a1 a2 a3 a4 a6 a7
      go_wp2_with fail
      refine P1.mono ?_
      clear P1 a0 a5 a8
      rintro e w4 ⟨rfl, hb4⟩
      have H4 := Lib.hid (H3.out.trans (hb4.mono H3.out.size))
      clear hb4
      go_wp2
      go_ret
      exact ⟨ret_bool (by simp), H4.out⟩
end Go.Proofs.YtcjmfjccjhdgjaaGreatDoor
namespace Go.Bd
open Go.ChangeShapes Go.WideShapes Go.RowKit
theorem addr_lit' {w : World} {a : Addr} {v : Value} (h : w.cell? (a.add 0) = some v) : ∃ b off, a = ⟨b, off, none⟩ ∧ b < w.heap.size := by
  obtain ⟨b, off, spot⟩ := a
  have e : (⟨b, off, spot⟩ : Addr).add 0 = ⟨b, off, spot⟩ := by simp [Addr.add]
  rw [e] at h
  refine ⟨b, off, ?_, World.block_lt_of_cell? w _ h⟩
  cases spot with
  | none => rfl
  | some s =>
    exfalso
    simp only [World.cell?] at h
    split at h <;> simp at h
theorem rd_of' {w : World} {a : Addr} {len cap : Nat} {V : Nat → Value} (hl : len ≤ cap) (h : ∀ i, i < len → w.cell? (a.add i) = some (V i)) : Rd w w.heap.size (.slice (some a) len cap) ((List.range len).map V) := by
  refine ⟨some a, cap, by simp, by simpa using hl, fun hn => ?_⟩
  have hn' : 0 < len := by simpa using hn
  obtain ⟨b, off, rfl, hb⟩ := addr_lit' (h 0 hn')
  refine ⟨b, off, rfl, hb, fun j u hu => ?_⟩
  have hj : j < len := by have := (List.getElem?_eq_some_iff.1 hu).1; simpa using this
  rw [List.getElem?_map, List.getElem?_range hj] at hu
  have := h j hj
  rw [Addr.add_lit] at this
  rw [this]; exact hu
end Go.Bd
namespace Go.Proofs.YtcjmfjccjhdgjaaGreatDoor
open Go.ChangeShapes Go.WideShapes Go.RowKit Go.Bd
theorem bys_cells : Tryz.prog.cellsOf 43 = 1 := by kernel_rfl
theorem by_cells : Tryz.prog.cellsOf 5 = 1 := by kernel_rfl
theorem bys_bytes : Tryz.prog.bytesOf 43 = 24 := by kernel_rfl
section
variable {H : Type} {enc : TypeId × Value → H} {w : World} {sp : Nat → Bool} {held : Bool}
theorem open_bys {fuel : Nat} {cs : List Value} {x : DataW H × List MemPlace} (h : DataW.trod enc Tryz.prog w 0 sp held fuel 43 cs = some x) :
    ∃ v, ∃ xs : List Int, cs = [v] ∧ Rd w w.heap.size v (xs.map (Value.int .u8)) ∧ ∀ x ∈ xs, 0 ≤ x ∧ x ≤ 255 := by
  rcases Deep.open_slice1 (e := 5) Tryz.underlying43 by_cells h with ⟨rfl, rfl⟩ | ⟨a, len, cap, m, n, V, D, Pl, rfl, _, hl, _, hmm, rfl, hx⟩
  · exact ⟨_, [], rfl, Rd.nil _ _, fun _ h => by cases h⟩
  · have hlm : len ≤ m := by rw [hmm]; split <;> omega
    have each : ∀ i, i < len → ∃ z : Int, V i = .int .u8 z ∧ 0 ≤ z ∧ z ≤ 255 := by
      intro i hi
      obtain ⟨s, h1, _, h3⟩ := DataW.trod_int Tryz.underlying5 (hx i (by omega)).2
      simp only [List.cons.injEq, and_true] at h1
      have hz : 0 ≤ s ∧ s ≤ 255 := by simpa [Lit.wf, IntKind.min, IntKind.max, IntKind.signed, IntKind.bits] using h3
      exact ⟨s, h1, hz⟩
    obtain ⟨S, hS⟩ := Deep.choose_lt each
    refine ⟨_, (List.range len).map S, rfl, ?_, fun s hs => ?_⟩
    · have hr := rd_of' (w := w) (V := fun i => .int .u8 (S i)) hl (fun i hi => by rw [(hx i (by omega)).1, (hS i hi).1])
      rw [List.map_map]
      exact hr
    · obtain ⟨i, hi, rfl⟩ := List.mem_map.1 hs
      exact (hS i (by simpa using hi)).2
theorem open_bgrid_cells {fuel : Nat} {cs : List Value} {x : DataW H × List MemPlace} (h : DataW.trod enc Tryz.prog w 0 sp held fuel 45 cs = some x) :
    ∃ v ls, cs = [v] ∧ BGrid w w.heap.size v ls ∧ ((∀ n ∈ x.1.weights Tryz.prog 45, n ≤ reachBytes) → ls.length ≤ 140737488355328) := by
  rcases Deep.open_slice1 (e := 43) Tryz.underlying45 bys_cells h with ⟨rfl, rfl⟩ | ⟨a, len, cap, m, n, V, D, Pl, rfl, _, hl, _, hmm, rfl, hx⟩
  · exact ⟨_, [], rfl, ⟨[], Rd.nil _ _, rfl, fun _ _ h => by simp at h⟩, fun _ => by decide⟩
  · have hlm : len ≤ m := by rw [hmm]; split <;> omega
    have each : ∀ i, i < len → ∃ r : List Int, Rd w w.heap.size (V i) (r.map (Value.int .u8)) ∧ ∀ x ∈ r, 0 ≤ x ∧ x ≤ 255 := by
      intro i hi
      obtain ⟨v, r, h1, h2, h3⟩ := open_bys (hx i (by omega)).2
      simp only [List.cons.injEq, and_true] at h1
      subst h1
      exact ⟨r, h2, h3⟩
    obtain ⟨S, hS⟩ := Deep.choose_lt each
    refine ⟨_, (List.range len).map S, rfl, ⟨(List.range len).map V, rd_of' hl (fun i hi => (hx i (by omega)).1), by simp, fun j r hj => ?_⟩, fun hw => ?_⟩
    · have hjl : j < len := by have := (List.getElem?_eq_some_iff.1 hj).1; simpa using this
      rw [List.getElem?_map, List.getElem?_range hjl] at hj
      simp only [Option.map_some, Option.some.injEq] at hj
      subst hj
      exact ⟨(hS j hjl).2, V j, by rw [List.getElem?_map, List.getElem?_range hjl]; rfl, (hS j hjl).1⟩
    · have := hw _ (by simp only [DataW.weights, Tryz.underlying45]; exact List.mem_cons_self ..)
      simp only [List.length_map, List.length_range, bys_bytes] at this
      unfold reachBytes at this
      simp only [List.length_map, List.length_range]
      omega
end
set_option maxRecDepth 100000 in
theorem open_bgrid {H : Type} {enc : TypeId × Value → H} {W : World} {base : Nat} {sp : Nat → Bool} {hd : Bool} {v : Value} {d : DataW H} {p : List MemPlace}
    (hv : Value.okWide Tryz.prog W .any base 45 v) (h : DataW.Trod enc Tryz.prog W 0 sp hd 45 v d p) :
    ∃ ls, BGrid W W.heap.size v ls ∧ ((∀ n ∈ d.weights Tryz.prog 45, n ≤ reachBytes) → ls.length ≤ 140737488355328) := by
  obtain ⟨A, l, c, rfl⟩ := okWide_slice Tryz.underlying45 hv
  obtain ⟨fuel, hf⟩ := h
  obtain ⟨v, ls, h1, h2, h3⟩ := open_bgrid_cells hf
  simp only [Value.cells, List.cons.injEq, and_true] at h1
  subst h1
  exact ⟨ls, h2, h3⟩
end Go.Proofs.YtcjmfjccjhdgjaaGreatDoor
namespace Go.Proofs.YtcjmfjccjhdgjaaGreatDoor.blocksParas
open Go.ChangeShapes Go.WideShapes Go.ChangeAt Go.RowKit Go.Bd Go.WideMaps Go.WideElems
open Go.ChangeMaps (open_string shut_string)
set_option maxRecDepth 100000 in
theorem contract (H : Type) (enc : TypeId × Value → H) (W : World) (base : Nat) (args : Array Value) (ds gs : List (DataW H)) (before : List MemPlace)
    (hval : ∀ (j : Nat) t v, Tryz.f7.params[j]? = some t → args[j]? = some v → Value.okWide Tryz.prog W .any base t v)
    (hW : DataW.Whole enc Tryz.prog Tryz.f7.params.toList Rows.blocksParasSpec.vars false W args.toList ds gs before) (hsh : W.ShapedOpen Tryz.prog)
    (hsz : (DataW.weightsEach Tryz.prog (Tryz.f7.params.toList ++ (OpenSpec.ofChange Rows.blocksParasSpec).bare.plain.varTypes Tryz.prog) (ds ++ gs)).all (· ≤ reachBytes) = true) (hU : Lib.Utf8Tabs 1 2 W) :
    Calls Tryz.prog 7 args W fun e W' => ∃ v, e = .returned v ∧ Rows.blocksParasSpec.post enc Tryz.prog Tryz.f7 false true false false W args v W' := by
  obtain ⟨m, hm⟩ := maxLen_cell W hsh
  have hW' := hW
  obtain ⟨p, q, hA0, hV, rfl, hfz, hnd⟩ := hW
  have hA : DataW.TrodAll enc Tryz.prog W 0 (fun _ => true) true Tryz.f7.params.toList args.toList ds p := hA0
  rw [Tryz.params7] at hA hval hsz
  obtain ⟨v0, vs0, d0, ds0, p0, q0, hargs, rfl, rfl, h0, r0⟩ := trodAll_cons hA
  obtain ⟨v1, vs1, d1, ds1, p1, q1, rfl, rfl, rfl, h1, r1⟩ := trodAll_cons r0
  obtain ⟨rfl, rfl, rfl⟩ := trodAll_nil r1
  obtain rfl : args = #[v0, v1] := by cases args; simp_all
  obtain ⟨rfl, rfl⟩ := trodVars_none hV
  obtain ⟨xs0, hR0, bs0⟩ := open_bgrid (hval 0 45 v0 rfl rfl) h0
  have b0 := bs0 (fun n hn => by have := List.all_eq_true.1 hsz n (DataW.weights_mem_each (j := 0) rfl rfl n hn); simpa using this)
  obtain ⟨x1, rfl, rfl, rfl, wx1⟩ := open_int Tryz.underlying5 (hval 1 5 v1 rfl rfl) h1
  refine (blocksParas_true v0 xs0 x1 m W ⟨hm, hU⟩ hR0 b0 wx1).mono fun e W' ⟨he, hg⟩ => ?_
  subst he
  exact law_post hW' hg laidOut (by rw [Tryz.params7]; intro t ht; simp at ht; rcases ht with rfl | rfl <;> exact ⟨by kernel_rfl, of_decide_eq_true (by kernel_rfl)⟩) rfl rfl (by kernel_rfl) Tryz.underlying4
theorem laid_met (os : Os) : laidMet Tryz.prog Rows.blocksParasRow.laid ((laidWorld os).forCall (fun _ _ => 0) ⟨#[], #[.slice none 0 0, .int .u8 0], []⟩).memory :=
  laidMet_of_run' 8 (by kernel_rfl) (by kernel_rfl)
theorem reads (os : Os) {H : Type} (enc : TypeId × Value → H) : ∃ places, DataW.whole enc Tryz.prog ((laidWorld os).forCall (fun _ _ => 0) ⟨#[], #[.slice none 0 0, .int .u8 0], []⟩).memory Tryz.f7.params.toList Rows.blocksParasSpec.vars false (#[.slice none 0 0, .int .u8 0] : Array Value).toList 8 = some ([.nil, .lit (.int .u8 0)], [], places) :=
  ⟨[], by kernel_rfl⟩
set_option maxRecDepth 100000 in
theorem lifted (os : Os) (started : os.Started) (H : Type) (enc : TypeId × Value → H) (F : Stop.Interp) :
    ReturnsInHanded {} Tryz.checked os 7 .any ((OpenSpec.ofChange Rows.blocksParasSpec).preRow enc Tryz.prog Tryz.f7 Rows.blocksParasRow.domain false Rows.blocksParasRow.laid) (((OpenSpec.ofChange Rows.blocksParasSpec).at F).post enc Tryz.prog Tryz.f7 false true false false) := by
  obtain ⟨places, hx⟩ := reads os enc
  refine returnsInHanded_of_row (C := Tryz.checked) (s := OpenSpec.ofChange Rows.blocksParasSpec) own started (by kernel_rfl) Tryz.func7
    (witness_row_at (enc := enc) (C := Tryz.checked) false (laidWorld os) #[.slice none 0 0, .int .u8 0] rfl (by kernel_rfl) (by kernel_rfl) (by kernel_rfl)
      (OpenSpec.preRow_of_cond 8 hx (by kernel_rfl) (fun k hk => by cases hk) (by kernel_rfl) (laid_met os))) ?_
  intro W base args ds gs before hval hW _ _ hsz hL hsh _
  have hL' : laidMet Tryz.prog Rows.blocksParasRow.laid W := hL
  exact contract H enc W base args ds gs before hval hW hsh hsz (tabs_of hL')
theorem said : Rows.BlocksParasSaid :=
  OpenClaim.holds_of_cond 7 Tryz.f7 rfl rfl rfl rfl rfl rfl rfl ⟨rfl, rfl, rfl, rfl, rfl⟩ rfl rfl rfl rfl rfl (by kernel_rfl) Tryz.func7 (by kernel_rfl)
    (of_decide_eq_true (by kernel_rfl)) (by unfold Func.isWrapper; first | (rw [if_pos (by decide +kernel)]; kernel_rfl) | (rw [if_neg (by decide +kernel)]; exact ⟨rfl, rfl⟩))
    (fun os started H enc _ F => by rw [OpenClaim.pre_eq_preRow]; exact lifted os started H enc F)
theorem plain (f : FuncId) (fn : Func) (hf : Tryz.pinned.checked.prog.funcNamed Tryz.f7.name = some f) (hfn : Tryz.pinned.checked.prog.funcs[f]? = some fn) :
    false = Tryz.pinned.checked.prog.looks [] ∧ ∀ (j : Nat) t, fn.params[j]? = some t → Tryz.pinned.checked.prog.wantsStandIn t = false := by
  obtain rfl : f = 7 := Option.some.inj ((show Tryz.prog.funcNamed Tryz.f7.name = some 7 by kernel_rfl).symm.trans hf) |>.symm
  obtain rfl : fn = Tryz.f7 := (Option.some.inj (Tryz.func7.symm.trans hfn)).symm
  refine ⟨by kernel_rfl, fun j t ht => ?_⟩
  rw [Tryz.params7] at ht
  have hmem := Array.mem_of_getElem? ht
  simp at hmem
  rcases hmem with rfl | rfl
  · exact (show Tryz.prog.wantsStandIn 45 = false by kernel_rfl)
  · exact (show Tryz.prog.wantsStandIn 5 = false by kernel_rfl)
theorem card : Rows.BlocksParasCardSaid :=
  Claim7.holds_tied_plain_at .later [] _ _ _ _ said (fun _ h => by cases h) (by kernel_rfl) (fun _ h => by cases h) blocksParas_row_tie rfl ⟨rfl, rfl⟩ (by kernel_rfl) rfl plain (by kernel_rfl)
end Go.Proofs.YtcjmfjccjhdgjaaGreatDoor.blocksParas
