/-
  What the chapter's laws share, part 1: plain facts, memory, and walks of functions. Its conditions: those that each theorem names.
-/
import Derived.WalkKit
import Derived.Lib.Index
import Derived.Laws.MakeOwn
import Derived.Laws.NewBlocks
import Derived.Laws.Rows
import Derived.Laws.IdiomStrings
import Derived.Laws.OwnMore
import Derived.Deep.Draws
import Derived.WalkSmall
import Derived.OwnWalk
import Derived.Maps.OwnSet
import Derived.StringKeys
import Derived.Test.YtmldpehkacemfaaGreatDoorChecked
import Derived.IntWalk
import Derived.Deep.Light
import Derived.Handy
import Derived.Lib.Hide
import Derived.BigQuiet
import Derived.Deep.LoopGhost
import Derived.Below
import Derived.WalkSpells
import Derived.Deep.RegionHeld3
import Derived.Deep.AppendLies
import Derived.Deep.DrawnRows
import Derived.Outline
import Derived.Lib.AppendStr
import Derived.Maps.AppendAt
import Derived.Laws.AppendOwnNone
set_option linter.unusedSimpArgs false
set_option linter.unusedVariables false
namespace Go.Bd
abbrev Bs := List UInt8
def lowerB (c : UInt8) : UInt8 := if 65 ≤ c ∧ c ≤ 90 then c + 32 else c
def lower (l : Bs) : Bs := l.map lowerB
def first (l : Bs) (c : Int) : Nat := l.findIdx (fun b => (b.toNat : Int) == c)
theorem first_none {l : Bs} {c : Int} (h0 : ∀ j (h : j < l.length), ((l[j].toNat : Int) == c) = false) : first l c = l.length := by
  unfold first
  rw [List.findIdx_eq_length]
  intro x hx
  obtain ⟨j, hj, rfl⟩ := List.mem_iff_getElem.1 hx
  exact h0 j hj
def NoBefore (s : ByteArray) (c : Int) (k : Nat) : Prop := ∀ j (h : j < s.size), j < k → ((s[j].toNat : Int) == c) = false
theorem NoBefore.zero (s : ByteArray) (c : Int) : NoBefore s c 0 := fun _ _ h => absurd h (by omega)
theorem NoBefore.succ {s : ByteArray} {c : Int} {k : Nat} (h : NoBefore s c k) (hk : k < s.size) (h1 : ((s[k].toNat : Int) == c) = false) : NoBefore s c (k + 1) := by
  intro j hj hjk
  by_cases e : j = k
  · subst e; exact h1
  · exact h j hj (by omega)
theorem NoBefore.none {s : ByteArray} {c : Int} (h : NoBefore s c s.size) : first s.data.toList c = s.size := by
  rw [first_none (fun j hj => h j (by simpa using hj) (by simpa using hj))]; simp
def partB (l : Bs) : Bool := !l.isEmpty && (first l 59 == l.length && (first l 62 == l.length && (first l 60 == l.length && (first l 40 == l.length && first l 41 == l.length))))
def blank (c : UInt8) : Bool := c.toNat == 32 || c.toNat == 9
def dropL (l : Bs) : Bs := l.dropWhile blank
def dropR (l : Bs) : Bs := (l.reverse.dropWhile blank).reverse
def trim (l : Bs) : Bs := dropR (dropL l)
def strOf : Value → ByteArray | .string s => s | _ => ByteArray.empty
theorem size_mk (l : Bs) : (ByteArray.mk l.toArray).size = l.length := rfl
def signs : Bs := [59, 62, 60, 40, 41]
def parseB (l : Bs) : Option (Bs × Bs × Bs) :=
  if 240 < l.length then none
  else if partB (trim (l.take (min (first l 59) (first l 62)))) = false then none
  else if min (first l 59) (first l 62) = l.length then some (trim (l.take (min (first l 59) (first l 62))), [], [])
  else if partB (trim (l.drop (min (first l 59) (first l 62) + 1))) = false then none
  else if (l.getD (min (first l 59) (first l 62)) 0).toNat = 59 then some (trim (l.take (min (first l 59) (first l 62))), trim (l.drop (min (first l 59) (first l 62) + 1)), [])
  else some (trim (l.take (min (first l 59) (first l 62))), [], trim (l.drop (min (first l 59) (first l 62) + 1)))
def strV (l : Bs) : Value := .string ⟨l.toArray⟩
def parseV (l : Bs) : Value := match parseB l with
  | none => .tuple #[strV [], strV [], strV [], .int .i64 4]
  | some (a, b, c) => .tuple #[strV a, strV b, strV c, .int .i64 0]
def parseAt (s : ByteArray) (m : Nat) : Value :=
  if (240 : Int) < s.size then .tuple #[strV [], strV [], strV [], .int .i64 4]
  else if partB (trim (s.data.toList.take m)) = false then .tuple #[strV [], strV [], strV [], .int .i64 4]
  else if (m : Int) = s.size then .tuple #[strV (trim (s.data.toList.take m)), strV [], strV [], .int .i64 0]
  else if partB (trim (s.data.toList.drop (m + 1))) = false then .tuple #[strV [], strV [], strV [], .int .i64 4]
  else if ((s.data.toList.getD m 0).toNat : Int) = 59 then .tuple #[strV (trim (s.data.toList.take m)), strV (trim (s.data.toList.drop (m + 1))), strV [], .int .i64 0]
  else .tuple #[strV (trim (s.data.toList.take m)), strV [], strV (trim (s.data.toList.drop (m + 1))), .int .i64 0]
end Go.Bd
namespace Go.Bd
structure Sp where
  kind : Nat
  text : Bs
  sub : Bs
  see : Bs
  kids : List Sp
def txt (s : Bs) : Sp := ⟨0, s, [], [], []⟩
structure Rw where
  sp : List Sp
  tx : Bs
def Rw.none : Rw := ⟨[], []⟩
def Rw.write (r : Rw) (s : Bs) : Rw := ⟨r.sp, r.tx ++ s⟩
def Rw.flush (r : Rw) : Rw := if r.tx = [] then ⟨r.sp, []⟩ else ⟨r.sp ++ [txt r.tx], []⟩
def Rw.add (r : Rw) (x : Sp) : Rw := if x.kind = 0 then r.write x.text else ⟨r.flush.sp ++ [x], []⟩
structure Fr where
  row : Rw
  kind : Nat
  sign : Bs
  at' : Nat
structure Pst where
  fs : List Fr
  faults : List (Nat × Nat)
def onTop (g : Rw → Rw) : List Fr → List Fr
  | [] => []
  | f :: r => { f with row := g f.row } :: r
def Pst.top (st : Pst) (g : Rw → Rw) : Pst := { st with fs := onTop g st.fs }
def Pst.write (st : Pst) (s : Bs) : Pst := st.top (·.write s)
def Pst.tell (st : Pst) (i f : Nat) : Pst := { st with faults := st.faults ++ [(i, f)] }
def lastK (k : Nat) : List Fr → Nat
  | [] => 0
  | f :: r => if r = [] then 0 else if f.kind = k then r.length else lastK k r
def Pst.room (st : Pst) : Bool := decide (st.fs.length ≤ 16)
def Pst.begin (st : Pst) (k i : Nat) (sign : Bs) : Pst := { st with fs := ⟨Rw.none, k, sign, i⟩ :: st.fs }
def spill (f : Fr) (r : Rw) : Rw := (f.row.sp.foldl Rw.add (r.write f.sign)).write f.row.tx
def Pst.drop1 (st : Pst) : Pst :=
  match st.fs with
  | f :: g :: r => ⟨onTop (spill f) (g :: r), st.faults ++ [(f.at', 7)]⟩
  | _ => st
def Pst.dropN : Nat → Pst → Pst
  | 0, st => st
  | n + 1, st => dropN n st.drop1
def Pst.drop (st : Pst) (n : Nat) : Pst := st.dropN (st.fs.length - 1 - n)
def Pst.shut (st : Pst) : Pst :=
  match st.fs with
  | f :: r => { st with fs := onTop (·.add ⟨f.kind, [], [], [], f.row.flush.sp⟩) r }
  | _ => st
def Pst.fin (st : Pst) (n : Nat) : Pst := (st.drop n).shut
def nextAt (s : Bs) (i : Nat) (sign : Bs) : Option Nat := if Lib.index (s.drop i) sign < 0 then none else some (i + (Lib.index (s.drop i) sign).toNat)
def Pst.between (st : Pst) (s : Bs) (i : Nat) (a b : Bs) (asf : Bs → Sp ⊕ Nat) : Pst × Nat :=
  match nextAt s (i + a.length) b with
  | none => ((st.write a).tell i 7, i + a.length)
  | some n =>
    match asf ((s.drop (i + a.length)).take (n - (i + a.length))) with
    | .inr f => ((st.write ((s.drop i).take (n + b.length - i))).tell i f, n + b.length)
    | .inl x => (st.top (·.add x), n + b.length)
def escB (c : UInt8) : Bool := c == 42 || c == 95 || c == 60 || c == 40 || c == 94 || c == 93 || c == 92 || c == 96
def solid (c : UInt8) : Bool := (65 ≤ c && c ≤ 90) || (97 ≤ c && c ≤ 122) || (48 ≤ c && c ≤ 57)
def letterB (c : UInt8) : Bool := (65 ≤ c && c ≤ 90) || (97 ≤ c && c ≤ 122)
def nameB (l : Bs) : Bool := decide (1 ≤ l.length) && decide (l.length ≤ 60) && letterB (l.headD 0) && l.all fun c => solid c || c == 45
def codeS (l : Bs) : Sp ⊕ Nat := .inl ⟨3, l, [], [], []⟩
def refS (l : Bs) : Sp ⊕ Nat := if nameB l = true then .inl ⟨4, l, [], [], []⟩ else .inr 10
def termS (l : Bs) : Sp ⊕ Nat := match parseB l with | some (a, b, c) => .inl ⟨5, a, b, c, []⟩ | none => .inr 8
def atOf (fs : List Fr) (n : Nat) : Nat := match fs.reverse[n]? with | some f => f.at' | none => 0
def Pst.mark (st : Pst) (s : Bs) (i k : Nat) : Pst :=
  if lastK k st.fs > 0 ∧ atOf st.fs (lastK k st.fs) + 1 ≠ i ∧ 0 < i ∧ blank (s.getD (i - 1) 0) = false ∧ ¬ (i + 1 < s.length ∧ solid (s.getD (i + 1) 0) = true) then st.fin (lastK k st.fs)
  else if (0 < i ∧ solid (s.getD (i - 1) 0) = true) ∨ s.length ≤ i + 1 ∨ blank (s.getD (i + 1) 0) = true then st.write [s.getD i 0]
  else if st.room = false then (st.write [s.getD i 0]).tell i 7
  else st.begin k i [s.getD i 0]
def Pst.step (st : Pst) (s : Bs) (i : Nat) : Pst × Nat :=
  if s.getD i 0 = 92 ∧ i + 1 < s.length ∧ escB (s.getD (i + 1) 0) = true then (st.write [s.getD (i + 1) 0], i + 2)
  else if s.getD i 0 = 96 then st.between s i [96] [96] codeS
  else if [60, 60].isPrefixOf (s.drop i) = true then st.between s i [60, 60] [62, 62] refS
  else if [40, 40].isPrefixOf (s.drop i) = true then st.between s i [40, 40] [41, 41] termS
  else if [94, 91].isPrefixOf (s.drop i) = true then (if st.room = true then st.begin 6 i [94, 91] else (st.write [94, 91]).tell i 7, i + 2)
  else if s.getD i 0 = 93 ∧ 0 < lastK 6 st.fs then (st.fin (lastK 6 st.fs), i + 1)
  else if s.getD i 0 = 42 then (st.mark s i 1, i + 1)
  else if s.getD i 0 = 95 then (st.mark s i 2, i + 1)
  else (st.write [s.getD i 0], i + 1)
def Pst.first : Pst := ⟨[⟨Rw.none, 0, [], 0⟩], []⟩
def runP (s : Bs) : Nat → Nat → Pst → Pst
  | 0, _, st => st
  | n + 1, i, st => if i < s.length then runP s n (st.step s i).2 (st.step s i).1 else st
def endP (s : Bs) : Pst := (runP s s.length 0 Pst.first).drop 0
def spansOf (s : Bs) : List Sp := match (endP s).fs with | f :: _ => f.row.flush.sp | [] => []
def faultsAt (s : Bs) : List (Nat × Nat) := (endP s).faults
end Go.Bd
namespace Go.Bd
open Go.RowKit
def Holds (w : World) (g : Nat) (t : TypeId) (cs : Array Value) : Prop := w.heap[g]? = some (.cells cs t (0, 0))
section
variable {w w' : World} {g : Nat} {t : TypeId} {cs : Array Value}
theorem Holds.lt (h : Holds w g t cs) : g < w.heap.size := (Array.getElem?_eq_some_iff.1 h).1
theorem Holds.cell (h : Holds w g t cs) (i : Nat) : w.cell? ⟨g, i, none⟩ = cs[i]? := cell_of_row w g i cs t (0, 0) h
theorem Holds.free (h : Holds w g t cs) (i : Nat) : w.frozen? ⟨g, i, none⟩ = false := frozen_of_row w g i cs t h
theorem Holds.new (w : World) (t : TypeId) (cs : Array Value) : Holds (w.alloc (.cells cs t)) w.heap.size t cs := heap_alloc_new w _
theorem Holds.drew (h : Holds w g t cs) : Holds w.drew g t cs := h
theorem Holds.alloc (h : Holds w g t cs) (o : Obj) : Holds (w.alloc o) g t cs := (Below.heap_alloc w o g h.lt).trans h
theorem Holds.set (h : Holds w g t cs) (i : Nat) (u : Value) : Holds (w.setCell ⟨g, i, none⟩ u) g t (cs.setIfInBounds i u) := by
  unfold Holds at h ⊢
  simp [World.setCell, Array.getElem?_modify, h]
theorem Holds.below {B : Nat} (h : Holds w g t cs) (hb : Below B w w') (hg : g < B) : Holds w' g t cs := (hb.block g hg).trans h
end
def byteV (b : UInt8) : Value := .int .u8 (b.toNat : Int)
def Bytes (w : World) (g : Nat) (t : TypeId) (n k : Nat) (l : Bs) : Prop :=
  ∃ (cs : Array Value) (fz : Nat × Nat), w.heap[g]? = some (.cells cs t fz) ∧ (fz.2 = 0 ∨ cs.size ≤ fz.1) ∧ n ≤ cs.size ∧ k ≤ n ∧ ∀ j, j < k → cs[j]? = some (byteV (l.getD j 0))
section
variable {w w' : World} {g n k : Nat} {t : TypeId} {l : Bs}
theorem Bytes.new (w : World) (t : TypeId) (cs : Array Value) (l : Bs) {n : Nat} (hn : n ≤ cs.size) : Bytes (w.alloc (.cells cs t)) w.heap.size t n 0 l :=
  ⟨cs, _, heap_alloc_new w _, .inl rfl, hn, Nat.zero_le _, fun _ h => absurd h (by omega)⟩
theorem Bytes.room (h : Bytes w g t n k l) {i : Nat} (hk : i < n) : ∃ u, w.cell? ⟨g, i, none⟩ = some u := by
  obtain ⟨cs, fz, h, _, hn, _⟩ := h
  exact ⟨cs[i], by rw [cell_of_row w g i cs t fz h, Array.getElem?_eq_getElem (by omega)]⟩
theorem Bytes.free (h : Bytes w g t n k l) {i : Nat} (hi : i < n) : w.frozen? ⟨g, i, none⟩ = false := by
  obtain ⟨cs, ⟨lo, hi'⟩, h, hf, hn, _⟩ := h
  simp only [World.frozen?, h]
  rcases hf with hf | hf
  · simp only at hf; subst hf; simp
  · simp only at hf; simp; omega
theorem Bytes.cell (h : Bytes w g t n k l) {j : Nat} (hj : j < k) : w.cell? ⟨g, j, none⟩ = some (byteV (l.getD j 0)) := by
  obtain ⟨cs, fz, h, _, _, _, hc⟩ := h
  rw [cell_of_row w g j cs t fz h, hc j hj]
theorem Bytes.put (h : Bytes w g t n k l) (hk : k < n) {u : Value} (hu : u = byteV (l.getD k 0)) : Bytes (w.setCell ⟨g, k, none⟩ u) g t n (k + 1) l := by
  obtain ⟨cs, fz, h, hf, hn, hkn, hc⟩ := h
  refine ⟨cs.setIfInBounds k u, fz, by simp [World.setCell, Array.getElem?_modify, h], by simpa using hf, by simpa using hn, hk, fun j hj => ?_⟩
  rw [Array.getElem?_setIfInBounds]
  by_cases e : k = j
  · subst e; rw [if_pos rfl, if_pos (by omega), hu]
  · rw [if_neg e]; exact hc j (by omega)
theorem Bytes.lt (h : Bytes w g t n k l) : g < w.heap.size := by
  obtain ⟨cs, fz, h, _⟩ := h
  exact (Array.getElem?_eq_some_iff.1 h).1
theorem Bytes.below {B : Nat} (h : Bytes w g t n k l) (hb : Below B w w') (hg : g < B) : Bytes w' g t n k l := by
  obtain ⟨cs, fz, h, r⟩ := h
  exact ⟨cs, fz, (hb.block g hg).trans h, r⟩
end
theorem addr_add (g j : Nat) : (⟨g, 0, none⟩ : Addr).add j = ⟨g, j, none⟩ := by unfold Addr.add; split <;> simp_all
theorem run_bytes_make {P : Program} (w : World) {src dst t : TypeId} (s : ByteArray) (hs : P.underlying src = some .string) (hd : P.underlying dst = some (.slice t)) (he : P.underlying t = some (.int .u8)) :
    ∃ cap w', (convert src dst (.string s)).run P w = .ok (.slice (some ⟨w.heap.size, 0, none⟩) s.size cap) w' ∧ s.size ≤ cap ∧ Below w.heap.size w w' ∧ Bytes w' w.heap.size t s.size s.size s.data.toList := by
  refine ⟨_, _, run_bytes_of_string w src dst t s hs hd he, grownCap_ge w s.size 0 t, ((Below.refl _ _).drew).alloc (Nat.le_refl _) _, _, _, heap_alloc_new w.drew _, .inr (Nat.le_refl _), ?_, Nat.le_refl _, fun j hj => ?_⟩
  · have := grownCap_ge w s.size 0 t
    simp [bytesRow]
  · rw [bytesRow_at s _ j (by simpa using hj), List.getD_eq_getElem?_getD, List.getElem?_eq_getElem (by simpa using hj)]
    rfl
end Go.Bd
namespace Go.Bd
open Go.RowKit
def Rd (w : World) (B : Nat) (v : Value) (xs : List Value) : Prop :=
  ∃ A c, v = .slice A xs.length c ∧ xs.length ≤ c ∧ (0 < xs.length → ∃ b off, A = some ⟨b, off, none⟩ ∧ b < B ∧ ∀ (j : Nat) u, xs[j]? = some u → w.cell? ⟨b, off + j, none⟩ = some u)
section
variable {w w' : World} {B B' : Nat} {v : Value} {xs : List Value}
theorem Rd.nil (w : World) (B : Nat) : Rd w B (.slice none 0 0) [] := ⟨none, 0, rfl, Nat.le_refl _, fun h => absurd h (by simp)⟩
theorem Rd.keep (h : Rd w B v xs) (hk : ∀ p : Addr, p.block < B → w'.cell? p = w.cell? p) : Rd w' B v xs := by
  obtain ⟨A, c, e, hc, h⟩ := h
  refine ⟨A, c, e, hc, fun hn => ?_⟩
  obtain ⟨b, off, hA, hb, hcell⟩ := h hn
  exact ⟨b, off, hA, hb, fun j u hu => (hk _ hb).trans (hcell j u hu)⟩
theorem Rd.below (h : Rd w B v xs) (hb : Below B w w') : Rd w' B v xs := h.keep fun _ hp => hb.cell hp
theorem Rd.more (h : Rd w B v xs) (hB : B ≤ B') : Rd w B' v xs := by
  obtain ⟨A, c, e, hc, h⟩ := h
  refine ⟨A, c, e, hc, fun hn => ?_⟩
  obtain ⟨b, off, hA, hb, hcell⟩ := h hn
  exact ⟨b, off, hA, Nat.lt_of_lt_of_le hb hB, hcell⟩
end
section
variable {w w' : World} {base : Nat} {e : TypeId} {v : Value} {n : Nat} {xs : List Value}
theorem own_length (h : w.ownsRow base e 1 v n xs) : xs.length = n := by simpa using h.1
theorem own_some (h : w.ownsRow base e 1 v n xs) (hn : 0 < n) : ∃ g cap, v = .slice (some ⟨g, 0, none⟩) n cap ∧ base ≤ g ∧ g < w.heap.size ∧ n ≤ cap ∧ cap ≤ maxLen ∧ w.shape? g = some (e, cap) := by
  rcases h.2 with ⟨_, h0⟩ | ⟨g, cap, cur, hv, hb, hh, hc, hm, hs, _⟩
  · omega
  · exact ⟨g, cap, hv, hb, (Array.getElem?_eq_some_iff.1 hh).1, hc, hm, by simp [World.shape?, hh]; omega⟩
theorem own_slice (h : w.ownsRow base e 1 v n xs) : ∃ A cap, v = .slice A n cap ∧ n ≤ cap := by
  rcases h.2 with ⟨hv, h0⟩ | ⟨g, cap, cur, hv, _, _, hc, _⟩
  · exact ⟨none, 0, by rw [hv, h0], by omega⟩
  · exact ⟨_, _, hv, hc⟩
theorem own_cell {g cap : Nat} (h : w.ownsRow base e 1 (.slice (some ⟨g, 0, none⟩) n cap) n xs) {j : Nat} {u : Value} (hu : xs[j]? = some u) : w.cell? ⟨g, j, none⟩ = some u := by
  have := h.cells (g := g) rfl j u hu
  rwa [addr_add] at this
theorem own_mono {base' : Nat} (h : w.ownsRow base e 1 v n xs) (hb : base' ≤ base) : w.ownsRow base' e 1 v n xs := by
  refine ⟨h.1, ?_⟩
  rcases h.2 with hn | ⟨g, cap, cur, hv, hg, r⟩
  · exact .inl hn
  · exact .inr ⟨g, cap, cur, hv, Nat.le_trans hb hg, r⟩
end
end Go.Bd
namespace Go.Bd
open Go.RowKit
structure Chg (w w' : World) (S : Nat → Prop) : Prop where
  os : w'.os = w.os
  tape : w'.tape = w.tape
  output : w'.output = w.output
  size : w.heap.size ≤ w'.heap.size
  block : ∀ k, k < w.heap.size → ¬ S k → w'.heap[k]? = w.heap[k]?
section
variable {w w' w'' : World} {S T : Nat → Prop}
theorem Chg.refl (w : World) (S : Nat → Prop) : Chg w w S := ⟨rfl, rfl, rfl, Nat.le_refl _, fun _ _ _ => rfl⟩
theorem Chg.trans (h : Chg w w' S) (h2 : Chg w' w'' T) (hT : ∀ k, k < w.heap.size → T k → S k) : Chg w w'' S :=
  ⟨h2.os.trans h.os, h2.tape.trans h.tape, h2.output.trans h.output, Nat.le_trans h.size h2.size, fun k hk hs =>
    (h2.block k (Nat.lt_of_lt_of_le hk h.size) (fun ht => hs (hT k hk ht))).trans (h.block k hk hs)⟩
theorem Chg.mono (h : Chg w w' S) (hT : ∀ k, k < w.heap.size → S k → T k) : Chg w w' T := ⟨h.os, h.tape, h.output, h.size, fun k hk ht => h.block k hk (fun hs => ht (hT k hk hs))⟩
theorem Chg.alloc (h : Chg w w' S) (o : Obj) : Chg w (w'.alloc o) S :=
  ⟨h.os, h.tape, h.output, Nat.le_trans h.size (by simp), fun k hk hs => (Below.heap_alloc w' o k (Nat.lt_of_lt_of_le hk h.size)).trans (h.block k hk hs)⟩
theorem Chg.drew (h : Chg w w' S) : Chg w w'.drew S := ⟨h.os, h.tape, h.output, h.size, h.block⟩
theorem Chg.grown {row : Option Nat} (h : w.grownBy w' row) : Chg w w' (fun k => some k = row) := ⟨h.os, h.tape, h.output, h.size, fun k hk hs => h.block k hk hs⟩
theorem Chg.below (h : Below w.heap.size w w') (S : Nat → Prop) : Chg w w' S := ⟨h.os, h.tape, h.output, h.size, fun k hk _ => h.block k hk⟩
theorem Chg.toBelow {B : Nat} (h : Chg w w' S) (hB : B ≤ w.heap.size) (hS : ∀ k, S k → B ≤ k) : Below B w w' :=
  ⟨h.os, h.tape, h.output, h.size, fun k hk => h.block k (by omega) (fun hs => by have := hS k hs; omega)⟩
theorem Chg.set (w : World) (p : Addr) (u : Value) : Chg w (w.setCell p u) (fun k => k = p.block) :=
  ⟨rfl, rfl, rfl, by simp [World.setCell], fun k _ hs => Below.heap_setCell w p u k hs⟩
theorem Chg.cell (h : Chg w w' S) {p : Addr} {v : Value} (hp : ¬ S p.block) (hc : w.cell? p = some v) : w'.cell? p = some v :=
  (World.cell?_of_block (h.block _ (World.block_lt_of_cell? w _ hc) hp)).trans hc
theorem Chg.holds (h : Chg w w' S) {g : Nat} {t : TypeId} {cs : Array Value} (hp : ¬ S g) (hh : Holds w g t cs) : Holds w' g t cs := (h.block g hh.lt hp).trans hh
theorem Chg.owns (h : Chg w w' S) {base : Nat} {e : TypeId} {sz : Nat} {v : Value} {n : Nat} {xs : List Value} (ho : w.ownsRow base e sz v n xs) (hp : ∀ k, v.ownBlock = some k → ¬ S k) : w'.ownsRow base e sz v n xs := by
  refine ⟨ho.1, ?_⟩
  rcases ho.2 with hn | ⟨g, cap, cur, hv, hg, hh, r⟩
  · exact .inl hn
  · exact .inr ⟨g, cap, cur, hv, hg, (h.block g (Array.getElem?_eq_some_iff.1 hh).1 (hp g (by rw [hv]; rfl))).trans hh, r⟩
end
theorem cell_off {w : World} {b i j : Nat} {v : Value} (h : i ≠ j) (u : Value) (hc : w.cell? ⟨b, j, none⟩ = some v) : (w.setCell ⟨b, i, none⟩ u).cell? ⟨b, j, none⟩ = some v := by
  unfold World.cell? World.setCell at *
  simp only [Array.getElem?_modify, if_true] at *
  cases hw : w.heap[b]? with
  | none => rw [hw] at hc; simp at hc
  | some o =>
    rw [hw] at hc
    cases o <;> simp_all
theorem cell_far {w : World} {g b i j : Nat} {v : Value} (h : g ≠ b) (u : Value) (hc : w.cell? ⟨b, j, none⟩ = some v) : (w.setCell ⟨g, i, none⟩ u).cell? ⟨b, j, none⟩ = some v :=
  (World.cell?_of_block (a := ⟨b, j, none⟩) (Below.heap_setCell w ⟨g, i, none⟩ u b (fun e => h e.symm))).trans hc
def spCells (x : Sp) (kv : Value) : List Value := [.int .u8 (x.kind : Int), strV x.text, strV x.sub, strV x.see, kv]
inductive Forest (w : World) (F : Nat → Prop) : Value → List Sp → Prop
  | mk (A : Option Addr) (c : Nat) (l : List Sp) (kvs : List Value) (hlen : kvs.length = l.length) (hc : l.length ≤ c)
      (hA : l ≠ [] → ∃ b off, A = some ⟨b, off, none⟩ ∧ F b ∧ ∀ (j : Nat) x kv, l[j]? = some x → kvs[j]? = some kv → ∀ (i : Nat) u, (spCells x kv)[i]? = some u → w.cell? ⟨b, off + j * 5 + i, none⟩ = some u)
      (hk : ∀ (j : Nat) x kv, l[j]? = some x → kvs[j]? = some kv → Forest w F kv x.kids) : Forest w F (.slice A l.length c) l
section
variable {w w' : World} {F G : Nat → Prop} {v : Value} {l : List Sp}
theorem Forest.nil (w : World) (F : Nat → Prop) : Forest w F (.slice none 0 0) [] :=
  .mk none 0 [] [] rfl (Nat.le_refl _) (fun h => absurd rfl h) (fun _ _ _ h => by simp at h)
theorem Forest.keep (h : Forest w F v l) (hk : ∀ b, F b → G b) (hc : ∀ (p : Addr) u, F p.block → w.cell? p = some u → w'.cell? p = some u) : Forest w' G v l := by
  induction h with
  | mk A c l kvs hlen hcap hA _ ih =>
    refine .mk A c l kvs hlen hcap (fun hn => ?_) (fun j x kv h1 h2 => ih j x kv h1 h2)
    obtain ⟨b, off, h1, h2, h3⟩ := hA hn
    exact ⟨b, off, h1, hk b h2, fun j x kv e1 e2 i u e3 => hc ⟨b, off + j * 5 + i, none⟩ u h2 (h3 j x kv e1 e2 i u e3)⟩
theorem Forest.chg {S : Nat → Prop} (h : Forest w F v l) (hc : Chg w w' S) (hk : ∀ b, F b → G b) (hS : ∀ b, F b → ¬ S b) : Forest w' G v l :=
  h.keep hk fun _ _ hF hu => hc.cell (hS _ hF) hu
end
def rowCells : List Sp → List Value → List Value
  | x :: l, kv :: kvs => spCells x kv ++ rowCells l kvs
  | _, _ => []
def SpanRow (w : World) (B : Nat) (t : TypeId) (F : Nat → Prop) (v : Value) (l : List Sp) : Prop :=
  ∃ kvs, kvs.length = l.length ∧ w.ownsRow B t 5 v l.length (rowCells l kvs) ∧ ∀ (j : Nat) x kv, l[j]? = some x → kvs[j]? = some kv → Forest w F kv x.kids
section
variable {w w' : World} {F G : Nat → Prop} {v : Value} {l : List Sp} {B : Nat} {t : TypeId}
theorem SpanRow.nil (w : World) (B : Nat) (t : TypeId) (F : Nat → Prop) : SpanRow w B t F (.slice none 0 0) [] := ⟨[], rfl, World.ownsRow_nil _ _ _ _, fun _ _ _ h => by simp at h⟩
theorem SpanRow.chg {S : Nat → Prop} (h : SpanRow w B t F v l) (hc : Chg w w' S) (hk : ∀ b, F b → G b) (hS : ∀ b, F b → ¬ S b) (hv : ∀ b, v.ownBlock = some b → ¬ S b) : SpanRow w' B t G v l := by
  obtain ⟨kvs, h1, h2, h3⟩ := h
  exact ⟨kvs, h1, hc.owns h2 hv, fun j x kv e1 e2 => (h3 j x kv e1 e2).chg hc hk hS⟩
theorem SpanRow.lt (h : SpanRow w B t F v l) : ∀ k, v.ownBlock = some k → B ≤ k ∧ k < w.heap.size := by
  obtain ⟨kvs, h1, h2, h3⟩ := h
  exact h2.lt
end
end Go.Bd
namespace Go.Bd
open Go.RowKit Go.Maps Go.WideMaps
def heldR : Value → Option (DataW Value × List MemPlace) := fun v => some (.held v, [])
def nameL (s : ByteArray) : Lit := .string s.data.toList
structure Fe where
  name : ByteArray
  v : Value
  c : Bs
def findF (es : List Fe) (s : ByteArray) : Option Fe := es.find? (fun e => decide (e.name = s))
def valF (es : List Fe) (s : ByteArray) : Value := match findF es s with | some e => e.v | none => .slice none 0 0
def delF (es : List Fe) (s : ByteArray) : List Fe := es.filter (fun e => !decide (e.name = s))
def putF (es : List Fe) (e : Fe) : List Fe := delF es e.name ++ [e]
theorem findF_name {es : List Fe} {s : ByteArray} {e : Fe} (h : findF es s = some e) : e.name = s := by
  have := List.find?_some h
  simpa using this
theorem findF_del_same (es : List Fe) (s : ByteArray) : findF (delF es s) s = none := by
  unfold findF delF
  rw [List.find?_eq_none]
  intro x hx
  have := (List.mem_filter.1 hx).2
  simpa using this
theorem findF_del_other (es : List Fe) {s t : ByteArray} (h : t ≠ s) : findF (delF es s) t = findF es t := by
  unfold findF delF
  rw [List.find?_filter]
  congr 1
  funext e
  by_cases he : e.name = t
  · simp [he, h]
  · simp [he]
theorem findF_put_same (es : List Fe) (e : Fe) : findF (putF es e) e.name = some e := by
  unfold putF
  have h := findF_del_same es e.name
  unfold findF at h ⊢
  rw [List.find?_append, h]
  simp
theorem findF_put_other (es : List Fe) (e : Fe) {t : ByteArray} (h : t ≠ e.name) : findF (putF es e) t = findF es t := by
  unfold putF
  have h1 := findF_del_other es h
  unfold findF at h1 ⊢
  rw [List.find?_append, h1]
  have : List.find? (fun x => decide (x.name = t)) [e] = none := by simp [Ne.symm h]
  rw [this, Option.or_none]
def Uniq (es : List Fe) : Prop := es.Pairwise (fun a b => a.name ≠ b.name)
theorem Uniq.del {es : List Fe} (h : Uniq es) (s : ByteArray) : Uniq (delF es s) := List.Pairwise.filter _ h
theorem Uniq.put {es : List Fe} (h : Uniq es) (e : Fe) : Uniq (putF es e) := by
  unfold Uniq putF
  rw [List.pairwise_append]
  refine ⟨h.del _, List.pairwise_singleton _ _, fun a ha b hb => ?_⟩
  rw [List.mem_singleton] at hb
  subst hb
  have := (List.mem_filter.1 ha).2
  simpa using this
theorem del_length {es : List Fe} (h : Uniq es) (s : ByteArray) : (delF es s).length + (if (findF es s).isSome then 1 else 0) = es.length := by
  induction es with
  | nil => simp [delF, findF]
  | cons a es ih =>
    have h1 := List.pairwise_cons.1 h
    have ih' := ih h1.2
    by_cases ha : a.name = s
    · have e1 : delF es s = es := by
        unfold delF
        rw [List.filter_eq_self]
        intro x hx
        have := h1.1 x hx
        simp [← ha, Ne.symm this]
      have e2 : delF (a :: es) s = es := by
        unfold delF at e1 ⊢
        rw [List.filter_cons_of_neg (by simp [ha]), e1]
      rw [e2]
      simp [findF, ha]
    · have e2 : delF (a :: es) s = a :: delF es s := by
        unfold delF
        rw [List.filter_cons_of_pos (by simp [ha])]
      have e3 : findF (a :: es) s = findF es s := by
        unfold findF
        rw [List.find?_cons_of_neg (by simp [ha])]
      rw [e2, e3, List.length_cons, List.length_cons]
      omega
theorem put_length {es : List Fe} (h : Uniq es) (e : Fe) : (putF es e).length = es.length + (if (findF es e.name).isSome then 0 else 1) := by
  have := del_length h e.name
  unfold putF
  rw [List.length_append, List.length_singleton]
  split at this <;> split <;> simp_all
def FsMap (w : World) (P : Program) (K : TypeId) (bm : Nat) (es : List Fe) : Prop :=
  ∃ D, w.ownsMap P K heldR bm es.length D ∧ Maps.size D = es.length ∧ (∀ s : ByteArray, Maps.has D (nameL s) = (findF es s).isSome) ∧ ∀ (s : ByteArray) z, D.atKey (nameL s) z = match findF es s with | some e => .held e.v | none => z
theorem nameL_ne {s t : ByteArray} (h : t ≠ s) : nameL t ≠ nameL s := fun e => by
  unfold nameL at e
  injection e with e
  exact h (by cases s; cases t; simp_all)
section
variable {w w' : World} {P : Program} {K T E bm : Nat} {es : List Fe}
theorem tight {n : Nat} {D : DataW Value} (h : w.ownsMap P K heldR bm n D) : w.ownsMap P K heldR bm (Maps.size D) D := by
  obtain ⟨es, clock, h1, h2, _, h4⟩ := h
  refine ⟨es, clock, h1, h2, ?_, h4⟩
  rw [h4]
  simp [Maps.size, length_sorted]
theorem FsMap.lt (h : FsMap w P K bm es) : bm < w.heap.size := by
  obtain ⟨D, h1, _⟩ := h
  exact h1.lt
theorem FsMap.eq (h : FsMap w P K bm es) (he : w'.heap[bm]? = w.heap[bm]?) : FsMap w' P K bm es := by
  obtain ⟨D, ⟨m, clock, h1, h2⟩, h3⟩ := h
  exact ⟨D, ⟨m, clock, he.trans h1, h2⟩, h3⟩
theorem FsMap.chg {S : Nat → Prop} (h : FsMap w P K bm es) (hc : Chg w w' S) (hS : ¬ S bm) : FsMap w' P K bm es := h.eq (hc.block _ h.lt hS)
theorem FsMap.new (w : World) (P : Program) (K : TypeId) : FsMap (w.alloc (.map #[] 0)) P K w.heap.size [] :=
  ⟨.map [], World.ownsMap_made _ _ _ _, rfl, fun s => rfl, fun s z => rfl⟩
theorem FsMap.look (h : FsMap w P K bm es) (hk : P.underlying K = some .string) (ht : P.underlying T = some (.map K E)) (hz : (zeroValue E).run P w = .ok (.slice none 0 0) w) {s : ByteArray} (hs : s.size ≤ maxLen) :
    (Instr.lookup T (.map (some bm)) (.string s) false).run P w = .ok (valF es s) w := by
  obtain ⟨D, h1, _, _, h4⟩ := h
  obtain ⟨v, ps, hrun, hv⟩ := h1.lookup (string_keyed hk) ht hz rfl (keyOf_string_mk hk hs)
  rw [hrun]
  have e1 := h4 s (.held (.slice none 0 0))
  unfold nameL at e1
  rw [e1] at hv
  simp only [heldR, Option.some.injEq, Prod.mk.injEq] at hv
  unfold valF
  congr 1
  split at hv <;> simp_all
theorem FsMap.look_ok (h : FsMap w P K bm es) (hk : P.underlying K = some .string) (ht : P.underlying T = some (.map K E)) (hz : (zeroValue E).run P w = .ok (.slice none 0 0) w) {s : ByteArray} (hs : s.size ≤ maxLen) :
    (Instr.lookup T (.map (some bm)) (.string s) true).run P w = .ok (.tuple #[valF es s, .bool (findF es s).isSome]) w := by
  obtain ⟨D, h1, _, h3, h4⟩ := h
  obtain ⟨v, ps, hrun, hv⟩ := h1.look_ok (string_keyed hk) ht hz rfl (keyOf_string_mk hk hs)
  rw [hrun]
  have e1 := h4 s (.held (.slice none 0 0))
  have e2 := h3 s
  unfold nameL at e1 e2
  rw [e1] at hv
  rw [e2]
  simp only [heldR, Option.some.injEq, Prod.mk.injEq] at hv
  have e3 : v = valF es s := by
    unfold valF
    split at hv <;> simp_all
  rw [e3]
theorem FsMap.len (h : FsMap w P K bm es) (ht : P.underlying T = some (.map K E)) (ty : TypeId) : (Builtin.len_ #[T] ty #[.map (some bm)]).run P w = .ok (.int .i64 es.length) w := by
  obtain ⟨D, h1, h2, _⟩ := h
  rw [h1.len ht, h2]
theorem FsMap.store (h : FsMap w P K bm es) (hu : Uniq es) (hk : P.underlying K = some .string) (ht : P.underlying T = some (.map K E)) (hn : es.length < maxLen) (e : Fe) (hs : e.name.size ≤ maxLen) :
    ∃ w', (Instr.mapUpdate T (.map (some bm)) (.string e.name) e.v).run P w = .ok () w' ∧ FsMap w' P K bm (putF es e) ∧ Chg w w' (fun b => b = bm) ∧ w'.heap.size = w.heap.size := by
  obtain ⟨D, h1, h2, h3, h4⟩ := h
  obtain ⟨w', hrun, h5, h6⟩ := h1.store (string_keyed hk) ht hn (keyOf_string_mk hk hs) (val := e.v) (d := .held e.v) (ps := []) rfl
  have hsz : Maps.size (D.put (nameL e.name) (.held e.v)) = (putF es e).length := by
    have e1 := Maps.size_put (h1.tidy (string_keyed hk)) (k := nameL e.name) (.held e.v)
    rw [e1, h3, put_length hu, h2]
    split <;> simp
  refine ⟨w', hrun, ⟨D.put (nameL e.name) (.held e.v), ?_, hsz, fun s => ?_, fun s z => ?_⟩, (Chg.grown h6.grown).mono (fun k _ h => by simpa using h), ?_⟩
  · rw [← hsz]; exact tight h5
  · by_cases hse : s = e.name
    · subst hse
      rw [findF_put_same, Maps.has_put_same h1.isMap (by exact trivial)]
      rfl
    · rw [findF_put_other _ _ hse, Maps.has_put_other (nameL_ne hse), h3]
  · by_cases hse : s = e.name
    · subst hse
      rw [findF_put_same, Maps.atKey_put_same h1.isMap (by exact trivial)]
    · rw [findF_put_other _ _ hse, Maps.atKey_put_other (nameL_ne hse), h4]
  · obtain ⟨_, _, _, _, _, rfl⟩ := h6
    simp [ChangeMaps.setBlock]
theorem FsMap.drop (h : FsMap w P K bm es) (hu : Uniq es) (hk : P.underlying K = some .string) (ht : P.underlying T = some (.map K E)) (s : ByteArray) (hs : s.size ≤ maxLen) (ty : TypeId) :
    ∃ w', (Builtin.delete_ #[T, K] ty #[.map (some bm), .string s]).run P w = .ok (.tuple #[]) w' ∧ FsMap w' P K bm (delF es s) ∧ Chg w w' (fun b => b = bm) := by
  obtain ⟨D, h1, h2, h3, h4⟩ := h
  obtain ⟨w', hrun, h5, h6⟩ := h1.drop (string_keyed hk) ht (keyOf_string_mk hk hs) ty
  have hsz : Maps.size (D.del (nameL s)) = (delF es s).length := by
    have e1 := Maps.size_del (h1.tidy (string_keyed hk)) (k := nameL s)
    have e2 := del_length hu s
    rw [h3] at e1
    split at e1 <;> simp_all <;> omega
  refine ⟨w', hrun, ⟨D.del (nameL s), ?_, hsz, fun t => ?_, fun t z => ?_⟩, (Chg.grown h6.grown).mono (fun k _ h => by simpa using h)⟩
  · rw [← hsz]; exact tight h5
  · by_cases hse : t = s
    · subst hse
      rw [findF_del_same, Maps.has_del_same]
      rfl
    · rw [findF_del_other _ hse, Maps.has_del_other (nameL_ne hse), h3]
  · by_cases hse : t = s
    · subst hse
      rw [findF_del_same, Maps.atKey_del_same]
    · rw [findF_del_other _ hse, Maps.atKey_del_other (nameL_ne hse), h4]
end
end Go.Bd
namespace Go.Proofs.YtmldpehkacemfaaGreatDoor
open Go.RowKit Go.Bd
def okC (c : Nat) : Prop := (97 ≤ c ∧ c ≤ 122) ∨ (65 ≤ c ∧ c ≤ 90) ∨ (48 ≤ c ∧ c ≤ 57) ∨ c = 45 ∨ c = 46
instance (c : Nat) : Decidable (okC c) := by unfold okC; infer_instance
def nameB (s : ByteArray) : Bool := decide (1 ≤ s.size ∧ s.size ≤ 80 ∧ ∀ b ∈ s.data.toList, okC b.toNat)
theorem nameB_true {s : ByteArray} (h1 : 1 ≤ s.size) (h2 : s.size ≤ 80) (h : ∀ j (hj : j < s.size), okC s[j].toNat) : nameB s = true := by
  refine decide_eq_true ⟨h1, h2, fun b hb => ?_⟩
  obtain ⟨j, hj, rfl⟩ := List.mem_iff_getElem.1 hb
  exact h j (by simpa using hj)
theorem nameB_false {s : ByteArray} {j : Nat} (hj : j < s.size) (h : ¬ okC s[j].toNat) : nameB s = false := by
  refine decide_eq_false fun e => h (e.2.2 _ ?_)
  have : s[j] = s.data.toList[j]'(by simpa using hj) := rfl
  rw [this]
  exact List.getElem_mem _
set_option maxRecDepth 100000 in
set_option maxHeartbeats 2000000 in
theorem named_any (s : ByteArray) (w : World) (hs : s.size ≤ 140737488355328) :
    Calls Tryz.prog 50 #[.string s] w fun e w' => e = .returned (.bool (nameB s)) ∧ w' = w := by
  by_cases h0 : 1 ≤ s.size ∧ s.size ≤ 80
  · obtain ⟨h1, h2⟩ := h0
    go_enter Tryz.func50, Tryz.ntmps50
    go_wp2
    go_loopg [15] s.size (fun q v wr => ∃ k : Nat, k + q = s.size ∧ v = .int .i64 (k : Int) ∧ Hid (∀ j (hj : j < s.size), j < k → okC s[j].toNat) ∧ wr = w)
    case atStart => exact ⟨0, by omega, rfl, fun _ _ h => absurd h (by omega), rfl⟩
    case round =>
      obtain ⟨k, hk, rfl, H, rfl⟩ := hrel
      by_cases hlt : k < s.size
      · by_cases hok : okC s[k].toNat
        · have HN : Hid (∀ j (hj : j < s.size), j < k + 1 → okC s[j].toNat) := fun j hj hjk => by
            by_cases e : j = k
            · subst e; exact hok
            · exact H.out j hj (by omega)
          clear H
          rcases hok with h | h | h | h | h
          all_goals
            go_wp2
            all_goals
              go_roundg (gk - 1)
              case measure => omega
              case rel => exact ⟨k + 1, by omega, by go_num, HN.out, rfl⟩
        · have hf := nameB_false hlt hok
          have HF := Lib.hid hf
          unfold okC at hok
          have n1 : ¬ (97 ≤ s[k].toNat ∧ s[k].toNat ≤ 122) := fun h => hok (.inl h)
          have n2 : ¬ (65 ≤ s[k].toNat ∧ s[k].toNat ≤ 90) := fun h => hok (.inr (.inl h))
          have n3 : ¬ (48 ≤ s[k].toNat ∧ s[k].toNat ≤ 57) := fun h => hok (.inr (.inr (.inl h)))
          have n4 : ¬ s[k].toNat = 45 := fun h => hok (.inr (.inr (.inr (.inl h))))
          have n5 : ¬ s[k].toNat = 46 := fun h => hok (.inr (.inr (.inr (.inr h))))
          clear hok hf H
          go_wp2
          all_goals
            go_ret
            exact ⟨by rw [HF.out]; rfl, rfl⟩
      · obtain rfl : k = s.size := by omega
        have hf := nameB_true h1 h2 (fun j hj => H.out j hj hj)
        have HF := Lib.hid hf
        clear hf H
        go_wp2
        go_ret
        exact ⟨by rw [HF.out]; rfl, rfl⟩
  · have hf : nameB s = false := decide_eq_false fun e => h0 ⟨e.1, e.2.1⟩
    rw [hf]
    clear hf
    by_cases h1 : 1 ≤ s.size
    · have h2 : 80 < s.size := by omega
      go_enter Tryz.func50, Tryz.ntmps50
      go_wp2
      go_ret
      exact ⟨rfl, rfl⟩
    · go_enter Tryz.func50, Tryz.ntmps50
      go_wp2
      go_ret
      exact ⟨rfl, rfl⟩
end Go.Proofs.YtmldpehkacemfaaGreatDoor
namespace Go.Bd
abbrev Fs := List (ByteArray × Bs)
def fsOf (es : List Fe) : Fs := es.map fun e => (e.name, e.c)
def getB (fs : Fs) (s : ByteArray) : Option Bs := (fs.find? (fun p => decide (p.1 = s))).map (·.2)
def delB (fs : Fs) (s : ByteArray) : Fs := fs.filter (fun p => !decide (p.1 = s))
def setB (fs : Fs) (s : ByteArray) (c : Bs) : Fs := delB fs s ++ [(s, c)]
def usedB (fs : Fs) : Nat := (fs.map (·.2.length)).sum
inductive Raw
  | empty (n : ByteArray)
  | behind (n : ByteArray) (b : Bs)
  | gone (n : ByteArray)
def Raw.app : Raw → Fs → Fs
  | .empty n, fs => setB fs n []
  | .behind n b, fs => setB fs n ((getB fs n).getD [] ++ b)
  | .gone n, fs => delB fs n
def runR (h : List Raw) : Fs := h.foldl (fun fs r => r.app fs) []
theorem runR_snoc (h : List Raw) (r : Raw) : runR (h ++ [r]) = r.app (runR h) := by unfold runR; rw [List.foldl_append]; rfl
theorem fsOf_del (es : List Fe) (s : ByteArray) : fsOf (delF es s) = delB (fsOf es) s := by
  unfold fsOf delF delB
  rw [List.filter_map]
  rfl
theorem fsOf_put (es : List Fe) (e : Fe) : fsOf (putF es e) = setB (fsOf es) e.name e.c := by
  unfold putF setB
  rw [← fsOf_del]
  simp [fsOf]
theorem getB_of (es : List Fe) (s : ByteArray) : getB (fsOf es) s = (findF es s).map (·.c) := by
  unfold getB fsOf findF
  rw [List.find?_map, Option.map_map]
  rfl
def UniqB (fs : Fs) : Prop := fs.Pairwise (fun a b => a.1 ≠ b.1)
theorem UniqB.del {fs : Fs} (h : UniqB fs) (s : ByteArray) : UniqB (delB fs s) := List.Pairwise.filter _ h
theorem UniqB.set {fs : Fs} (h : UniqB fs) (s : ByteArray) (c : Bs) : UniqB (setB fs s c) := by
  unfold UniqB setB
  rw [List.pairwise_append]
  refine ⟨h.del _, List.pairwise_singleton _ _, fun a ha b hb => ?_⟩
  rw [List.mem_singleton] at hb
  subst hb
  have := (List.mem_filter.1 ha).2
  simpa using this
theorem uniq_app (r : Raw) {fs : Fs} (h : UniqB fs) : UniqB (r.app fs) := by
  cases r with
  | empty n => exact h.set _ _
  | behind n b => exact h.set _ _
  | gone n => exact h.del _
theorem uniq_run : ∀ (h : List Raw) (fs : Fs), UniqB fs → UniqB (h.foldl (fun fs r => r.app fs) fs)
  | [], _, h => h
  | r :: h, fs, hu => uniq_run h _ (uniq_app r hu)
theorem uniq_runR (h : List Raw) : UniqB (runR h) := uniq_run h [] List.Pairwise.nil
theorem used_del {fs : Fs} (h : UniqB fs) (s : ByteArray) : usedB (delB fs s) + ((getB fs s).getD []).length = usedB fs := by
  induction fs with
  | nil => rfl
  | cons a fs ih =>
    have h1 := List.pairwise_cons.1 h
    have ih' := ih h1.2
    by_cases ha : a.1 = s
    · have e1 : delB fs s = fs := by
        unfold delB
        rw [List.filter_eq_self]
        intro x hx
        have := h1.1 x hx
        simp [← ha, Ne.symm this]
      have e2 : delB (a :: fs) s = fs := by
        unfold delB at e1 ⊢
        rw [List.filter_cons_of_neg (by simp [ha]), e1]
      rw [e2]
      simp [getB, ha, usedB]
      omega
    · have e2 : delB (a :: fs) s = a :: delB fs s := by
        unfold delB
        rw [List.filter_cons_of_pos (by simp [ha])]
      have e3 : getB (a :: fs) s = getB fs s := by
        unfold getB
        rw [List.find?_cons_of_neg (by simp [ha])]
      rw [e2, e3]
      unfold usedB at ih' ⊢
      rw [List.map_cons, List.map_cons, List.sum_cons, List.sum_cons]
      omega
theorem used_set {fs : Fs} (h : UniqB fs) (s : ByteArray) (c : Bs) : usedB (setB fs s c) + ((getB fs s).getD []).length = usedB fs + c.length := by
  have h1 := used_del h s
  unfold setB usedB at *
  rw [List.map_append, List.sum_append]
  simp
  omega
theorem getB_set_same (fs : Fs) (s : ByteArray) (c : Bs) : getB (setB fs s c) s = some c := by
  have h : (delB fs s).find? (fun p => decide (p.1 = s)) = none := by
    unfold delB
    rw [List.find?_eq_none]
    intro x hx
    have := (List.mem_filter.1 hx).2
    simpa using this
  unfold getB setB
  rw [List.find?_append, h]
  simp
theorem getB_set_other (fs : Fs) {s t : ByteArray} (c : Bs) (ht : t ≠ s) : getB (setB fs s c) t = getB fs t := by
  have h : (delB fs s).find? (fun p => decide (p.1 = t)) = fs.find? (fun p => decide (p.1 = t)) := by
    unfold delB
    rw [List.find?_filter]
    congr 1
    funext p
    by_cases hp : p.1 = t
    · simp [hp, ht]
    · simp [hp]
  unfold getB setB
  rw [List.find?_append, h]
  have : List.find? (fun p => decide (p.1 = t)) [(s, c)] = none := by simp [Ne.symm ht]
  rw [this, Option.or_none]
end Go.Bd
namespace Go.Proofs.YtmldpehkacemfaaGreatDoor
open Go.RowKit Go.Bd
def u8L (l : Bs) : List Value := l.map fun b => .int .u8 (b.toNat : Int)
theorem u8L_length (l : Bs) : (u8L l).length = l.length := by unfold u8L; simp
theorem u8L_append (a b : Bs) : u8L (a ++ b) = u8L a ++ u8L b := by unfold u8L; simp
theorem u8L_one {l : Bs} {u : Value} (h : u ∈ u8L l) : u.oneCell' = true := by
  unfold u8L at h
  obtain ⟨b, _, rfl⟩ := List.mem_map.1 h
  rfl
def RawAt (w : World) (Ro : Nat → Prop) (f : Value) : Raw → Prop
  | .empty n => ∃ b, Ro b ∧ f = .func (.func 69) #[] #[.pointer (some ⟨b, 0, none⟩)] ∧ Holds w b 9 #[.string n] ∧ n.size ≤ 80
  | .behind n c => ∃ bb bn blk off cap, Ro bb ∧ Ro bn ∧ Ro blk ∧ f = .func (.func 71) #[] #[.pointer (some ⟨bb, 0, none⟩), .pointer (some ⟨bn, 0, none⟩)] ∧
      Holds w bb 69 #[.slice (some ⟨blk, off, none⟩) c.length cap] ∧ Holds w bn 9 #[.string n] ∧ n.size ≤ 80 ∧ (0 < c.length ∧ c.length ≤ 512) ∧ ∀ (j : Nat) u, (u8L c)[j]? = some u → w.cell? ⟨blk, off + j, none⟩ = some u
  | .gone n => ∃ b, Ro b ∧ f = .func (.func 78) #[] #[.pointer (some ⟨b, 0, none⟩)] ∧ Holds w b 9 #[.string n] ∧ n.size ≤ 80
theorem RawAt.chg {w w' : World} {Ro Ro' S : Nat → Prop} {f : Value} {r : Raw} (h : RawAt w Ro f r) (hc : Chg w w' S) (hr : ∀ k, Ro k → Ro' k) (hS : ∀ k, Ro k → ¬ S k) : RawAt w' Ro' f r := by
  cases r with
  | empty n =>
    obtain ⟨b, h1, h2, h3, h4⟩ := h
    exact ⟨b, hr _ h1, h2, hc.holds (hS _ h1) h3, h4⟩
  | gone n =>
    obtain ⟨b, h1, h2, h3, h4⟩ := h
    exact ⟨b, hr _ h1, h2, hc.holds (hS _ h1) h3, h4⟩
  | behind n c =>
    obtain ⟨bb, bn, blk, off, cap, h1, h2, h3, h4, h5, h6, h7, h8, h9⟩ := h
    exact ⟨bb, bn, blk, off, cap, hr _ h1, hr _ h2, hr _ h3, h4, hc.holds (hS _ h1) h5, hc.holds (hS _ h2) h6, h7, h8, fun j u hu => hc.cell (p := ⟨blk, off + j, none⟩) (hS _ h3) (h9 j u hu)⟩
def RawsAt (w : World) (Ro : Nat → Prop) (fs : List Value) (rs : List Raw) : Prop := fs.length = rs.length ∧ ∀ (j : Nat) f r, fs[j]? = some f → rs[j]? = some r → RawAt w Ro f r
theorem RawsAt.chg {w w' : World} {Ro Ro' S : Nat → Prop} {fs : List Value} {rs : List Raw} (h : RawsAt w Ro fs rs) (hc : Chg w w' S) (hr : ∀ k, Ro k → Ro' k) (hS : ∀ k, Ro k → ¬ S k) : RawsAt w' Ro' fs rs :=
  ⟨h.1, fun j f r hf hg => (h.2 j f r hf hg).chg hc hr hS⟩
theorem RawsAt.snoc {w : World} {Ro : Nat → Prop} {fs : List Value} {rs : List Raw} {f : Value} {r : Raw} (h : RawsAt w Ro fs rs) (hf : RawAt w Ro f r) : RawsAt w Ro (fs ++ [f]) (rs ++ [r]) := by
  refine ⟨by simp [h.1], fun j f' r' h1 h2 => ?_⟩
  by_cases hj : j < fs.length
  · rw [List.getElem?_append_left hj] at h1
    rw [List.getElem?_append_left (by rw [← h.1]; exact hj)] at h2
    exact h.2 j f' r' h1 h2
  · rw [List.getElem?_append_right (by omega)] at h1
    rw [List.getElem?_append_right (by rw [← h.1]; omega)] at h2
    rw [List.getElem?_singleton] at h1 h2
    split at h1
    · split at h2
      · injection h1 with h1; injection h2 with h2
        subst h1; subst h2
        exact hf
      · exact absurd h2 (by simp)
    · exact absurd h1 (by simp)
def Apart (es : List Fe) : Prop := es.Pairwise fun a b => ∀ k, a.v.ownBlock = some k → b.v.ownBlock ≠ some k
structure DiskAt (w : World) (F Ro : Nat → Prop) (db : Nat) (size : Nat) (es : List Fe) (hist : List Raw) (bm : Nat) (hv : Value) (fs : List Value) (rs : List Raw) : Prop where
  hold : Holds w db 54 #[.int .i64 (size : Int), .int .i64 (usedB (fsOf es) : Int), .map (some bm), hv]
  map : FsMap w Tryz.prog 9 bm es
  uniq : Uniq es
  names : ∀ e ∈ es, e.name.size ≤ 80
  rows : ∀ e ∈ es, w.ownsRow 0 5 1 e.v e.c.length (u8L e.c)
  apart : Apart es
  row : w.ownsRow 0 75 1 hv hist.length fs
  raws : RawsAt w Ro fs hist
  says : fsOf es = runR rs
  inDb : F db
  inBm : F bm
  inHv : ∀ k, hv.ownBlock = some k → F k
  inEs : ∀ e ∈ es, ∀ k, e.v.ownBlock = some k → F k
  offDb : ¬ db = bm ∧ (∀ k, hv.ownBlock = some k → ¬ k = db ∧ ¬ k = bm) ∧ ∀ e ∈ es, ∀ k, e.v.ownBlock = some k → ¬ k = db ∧ ¬ k = bm ∧ hv.ownBlock ≠ some k
  ltF : ∀ k, F k → k < w.heap.size
  ltR : ∀ k, Ro k → k < w.heap.size
  off : ∀ k, Ro k → ¬ F k
theorem DiskAt.chg {w w' : World} {F F' Ro Ro' S : Nat → Prop} {db size bm : Nat} {es : List Fe} {hist : List Raw} {hv : Value} {fs : List Value} {rs : List Raw} (h : DiskAt w F Ro db size es hist bm hv fs rs) (hc : Chg w w' S) (hS : ∀ k, F k → ¬ S k) (hR : ∀ k, Ro k → ¬ S k) : DiskAt w' F Ro db size es hist bm hv fs rs where
  hold := hc.holds (hS _ h.inDb) h.hold
  map := h.map.chg hc (hS _ h.inBm)
  uniq := h.uniq
  names := h.names
  rows := fun e he => hc.owns (h.rows e he) (fun k hk => hS _ (h.inEs e he k hk))
  apart := h.apart
  row := hc.owns h.row (fun k hk => hS _ (h.inHv k hk))
  raws := h.raws.chg hc (fun _ hk => hk) hR
  says := h.says
  inDb := h.inDb
  inBm := h.inBm
  inHv := h.inHv
  inEs := h.inEs
  offDb := h.offDb
  ltF := fun k hk => Nat.lt_of_lt_of_le (h.ltF k hk) hc.size
  ltR := fun k hk => Nat.lt_of_lt_of_le (h.ltR k hk) hc.size
  off := h.off
end Go.Proofs.YtmldpehkacemfaaGreatDoor
namespace Go.Bd
open Go.RowKit
def Near (w : World) (v v' : Value) : Prop := v'.ownBlock = v.ownBlock ∨ v'.ownBlock = some w.heap.size
theorem Near.old {w : World} {v v' : Value} (h : Near w v v') : ∀ b, v'.ownBlock = some b → v.ownBlock = some b ∨ w.heap.size ≤ b := fun b hb => by
  rcases h with h | h
  · exact .inl (h.symm.trans hb)
  · rw [h] at hb; cases hb; exact .inr (Nat.le_refl _)
theorem own_slice2 {w : World} {base n sz : Nat} {e : TypeId} {v : Value} {xs : List Value} (h : w.ownsRow base e sz v n xs) : ∃ A cap, v = .slice A n cap ∧ n ≤ cap := by
  rcases h.2 with ⟨hv, h0⟩ | ⟨g, cap, cur, hv, _, _, hc, _⟩
  · exact ⟨none, 0, by rw [hv, h0], by omega⟩
  · exact ⟨_, _, hv, hc⟩
theorem own_app_string {P : Program} (w : World) (base : Nat) (t u ty e : TypeId) (i : TypeInfo) (ht : P.underlying t = some (.slice e)) (hu : P.underlying u = some .string) (hi : P.info? e = some i) (hz : i.zero = some (.int .u8 0)) (hsize : i.size = 1) (hby : i.bytes = 1)
    (v : Value) (n : Nat) (xs : List Value) (hown : w.ownsRow base e 1 v n xs) (s : ByteArray) (h63 : n + s.size ≤ maxLen) (hbytes : n + s.size ≤ 140737488355328) (hbase : base ≤ w.heap.size) :
    ∃ v' w', (Builtin.append_ #[t, u] ty #[v, .string s]).run P w = .ok v' w' ∧ w'.ownsRow base e 1 v' (n + s.size) (xs ++ s.data.toList.map byteV) ∧ w.grownBy w' v.ownBlock ∧ Near w v v' := by
  obtain ⟨v', w', hr, h2, h3, h4⟩ := Lib.run_append_own_string (P := P) w base t u ty e i ht hu hi hz hsize hby v n xs hown s h63 hbytes hbase
  refine ⟨v', w', hr, h2, h3, ?_⟩
  have hsmall : n + s.size ≤ 9223372036854775807 := by simp only [maxLen] at h63; omega
  have hxl : xs.length = n := by simpa using hown.1
  rcases hown.2 with ⟨rfl, rfl⟩ | ⟨g, cap, cur, rfl, hbg, hg, hnc, hcm, hcs, htake⟩
  · by_cases hm : s.size = 0
    · exact .inl (by rw [h4.2 ⟨rfl, hm⟩])
    · have hq := run_append_nil_string (P := P) w t u ty e i (.int .u8 0) ht hu hi hz s (by omega) (by omega) (by rw [hby]; omega)
      rw [hr] at hq
      injection hq with e1 e2
      exact .inr (by rw [e1]; rfl)
  · by_cases hroom : n + s.size ≤ cap
    · have hq := Lib.run_append_room_string (P := P) w t u ty e i ht hu hi hsize g n cap cur hg s hroom (by omega)
      rw [hr] at hq
      injection hq with e1 e2
      exact .inl (by rw [e1]; rfl)
    · have hq := Lib.run_append_grow_string (P := P) w t u ty e i (.int .u8 0) ht hu hi hz ⟨g, 0, none⟩ n cap xs (by rw [hsize]; simpa using hxl) (hown.cells (g := g) rfl) s (by omega) (by omega) (by rw [hby]; exact growslice_fits (by omega) (by omega))
      rw [hr] at hq
      injection hq with e1 e2
      exact .inr (by rw [e1]; rfl)
theorem wpList_app_string {P : Program} (w : World) {ops : Array Oper} {rest : List Oper} {o : Oper} {a : Act} {Q : Exit → Act → World → Prop} (hgd : o.guard = none) (sl x : Operand) (t u : TypeId)
    (ho : o.op = .call { callee := .builtin .append, args := #[sl, x], argTypes := #[t, u] })
    (base : Nat) (e : TypeId) (ht : P.underlying t = some (.slice e)) (hu : P.underlying u = some .string) (hi : (P.info? e).map (fun i => (i.zero, i.size, i.bytes)) = some (some (.int .u8 0), 1, 1))
    (v : Value) (n : Nat) (xs : List Value) (hs : a.eval sl = v) (hown : w.ownsRow base e 1 v n xs) (s : ByteArray) (hx : a.eval x = .string s) (hb : n + s.size ≤ 140737488355328) (hbase : base ≤ w.heap.size)
    (h : ∀ v' w', w'.ownsRow base e 1 v' (n + s.size) (xs ++ s.data.toList.map byteV) → w.grownBy w' v.ownBlock → Near w v v' → wpList P ops Q rest (a.put o.dst v') w') : wpList P ops Q (o :: rest) a w := by
  obtain ⟨i, hi, h2, h3, h4⟩ := info_parts hi
  refine wpList_plain hgd fun K hK => ?_
  obtain ⟨v', w', hr, k2, k3, k4⟩ := own_app_string (P := P) w base t u o.type e i ht hu hi h2 h3 h4 v n xs hown s (by unfold maxLen; omega) hb hbase
  unfold Oper.wp execOp
  simp only [ho, resolve, invoke, builtin, Sem.run_bind, Sem.run_pure, Result.andThen_ok, List.map_toArray, List.map_cons, List.map_nil, hs, hx, hr]
  exact hK _ _ (h v' w' k2 k3 k4)
theorem wpList_app_el {P : Program} (w : World) {ops : Array Oper} {rest : List Oper} {o : Oper} {a : Act} {Q : Exit → Act → World → Prop} (hgd : o.guard = none) (s x : Operand) (t : TypeId)
    (ho : o.op = .call { callee := .builtin .append, args := #[s, x], argTypes := #[t, t] })
    (base : Nat) (e : TypeId) (z : Value) (size bytes : Nat) (ht : P.underlying t = some (.slice e)) (hi : (P.info? e).map (fun i => (i.zero, i.size, i.bytes)) = some (some z, size, bytes)) (hz : z.cells.size = size) (hsz : 0 < size)
    (v : Value) (n : Nat) (xs : List Value) (hs : a.eval s = v) (hown : w.ownsRow base e size v n xs)
    (g c : Nat) (news : List Value) (hx : a.eval x = .slice (some ⟨g, 0, none⟩) 1 c) (hl : news.length = size) (hc : Holds w g e news.toArray) (h1 : ∀ u ∈ news, u.oneCell' = true)
    (hb : (n + 1) * bytes ≤ 140737488355328) (hb2 : n + 1 ≤ 140737488355328) (hbase : base ≤ w.heap.size)
    (h : ∀ v' w', w'.ownsRow base e size v' (n + 1) (xs ++ news) → w.grownBy w' v.ownBlock → Near w v v' → wpList P ops Q rest (a.put o.dst v') w') : wpList P ops Q (o :: rest) a w := by
  obtain ⟨i, hi, h2, h3, h4⟩ := info_parts hi
  refine wpList_append_own_at w hgd s x t ho base e i z size bytes ht hi h2 h3 h4 hz hsz v n xs hs hown ⟨g, 0, none⟩ 1 c news hx (by omega) (fun j u hj => ?_) h1 (by unfold maxLen; omega) hb hbase (fun v' w' k1 k2 _ k4 => h v' w' k1 k2 k4)
  rw [addr_add, hc.cell]
  simpa using hj
end Go.Bd
namespace Go.Bd
def num8 (n : Nat) : Bs := (List.range 8).map fun i => UInt8.ofNat (n / 256 ^ i)
def text8B (s : Bs) : Bs := num8 s.length ++ s
def val8 : Bs → Nat
  | [] => 0
  | c :: l => c.toNat + 256 * val8 l
theorem num8_len (n : Nat) : (num8 n).length = 8 := by simp [num8]
theorem val8_map : ∀ (k n : Nat), n < 256 ^ k → val8 ((List.range k).map fun i => UInt8.ofNat (n / 256 ^ i)) = n
  | 0, n, h => by simp at h; subst h; rfl
  | k + 1, n, h => by
    rw [List.range_succ_eq_map, List.map_cons, List.map_map]
    have ih := val8_map k (n / 256) (by rw [Nat.pow_succ] at h; omega)
    have e : ((fun i => UInt8.ofNat (n / 256 ^ i)) ∘ Nat.succ) = fun i => UInt8.ofNat (n / 256 / 256 ^ i) := by
      funext i
      simp only [Function.comp, Nat.succ_eq_add_one]
      rw [Nat.pow_succ, Nat.mul_comm, Nat.div_div_eq_div_mul]
    rw [e]
    show (UInt8.ofNat (n / 256 ^ 0)).toNat + 256 * val8 _ = n
    rw [ih]
    simp
    omega
theorem val8_num {n : Nat} (h : n ≤ 8388608) : val8 (num8 n) = n := val8_map 8 n (by omega)
def trialN : ByteArray := ⟨#[106, 111, 117, 114, 110, 97, 108]⟩
def decN (n : Nat) : Bs := if n < 10 then [UInt8.ofNat (48 + n)] else [UInt8.ofNat (48 + n / 10), UInt8.ofNat (48 + n % 10)]
def cntN (n : Nat) : ByteArray := ⟨([106, 111, 117, 114, 110, 97, 108, 45] ++ decN n).toArray⟩
def ownB (s : ByteArray) : Bool := !([106, 111, 117, 114, 110, 97, 108] : Bs).isPrefixOf s.data.toList
theorem own_trial : ownB trialN = false := by decide +kernel
theorem own_cnt (n : Nat) : ownB (cntN n) = false := by
  unfold ownB cntN
  simp
theorem cnt_trial (n : Nat) : cntN n ≠ trialN := by
  intro h
  have := congrArg ByteArray.size h
  unfold cntN trialN decN at this
  split at this <;> simp [ByteArray.size] at this
theorem dec_inj : ∀ m < 99, ∀ n < 99, decN m = decN n → m = n := by decide +kernel
theorem cnt_inj {m n : Nat} (hm : m < 99) (hn : n < 99) (h : cntN m = cntN n) : m = n := by
  unfold cntN at h
  injection h with h
  have h1 := congrArg Array.toList h
  simp only [List.append_cancel_left_eq] at h1
  exact dec_inj m hm n hn h1
end Go.Bd
namespace Go.Proofs.YtmldpehkacemfaaGreatDoor
open Go.RowKit Go.Bd
theorem byte_info : (Tryz.prog.info? 5).map (fun i => (i.zero, i.size, i.bytes)) = some (some (.int .u8 0), 1, 1) := by kernel_rfl
theorem num8_get {n i : Nat} (h : i < 8) : (num8 n)[i]? = some (UInt8.ofNat (n / 256 ^ i)) := by
  unfold num8
  rw [List.getElem?_map, List.getElem?_range h]
  rfl
def Put (w : World) (B : Nat) (v : Value) (l : Bs) (w' : World) (v' : Value) (l' : Bs) : Prop := w'.ownsRow B 5 1 v' l'.length (u8L l') ∧ Chg w w' (fun k => v.ownBlock = some k) ∧ ∀ k, v'.ownBlock = some k → v.ownBlock = some k ∨ w.heap.size ≤ k
set_option maxRecDepth 100000 in
set_option maxHeartbeats 2000000 in
theorem number_any (l : Bs) (v : Value) (w : World) (B : Nat) (hB : B ≤ w.heap.size) (ho : w.ownsRow B 5 1 v l.length (u8L l)) (hl : l.length ≤ 100000000) (n : Nat) (hn : n ≤ 1000000000) :
    Calls Tryz.prog 47 #[v, .int .i64 (n : Int)] w fun e w' => ∃ v', e = .returned v' ∧ Put w B v l w' v' (l ++ num8 n) := by
  obtain ⟨A, c, rfl, hc⟩ := own_slice ho
  have HO := Lib.hid ho
  clear ho
  go_enter Tryz.func47, Tryz.ntmps47
  go_wp2_with fail
  go_loopg [0, 6] 8 (fun q bv iv wr => ∃ (i : Nat) (m : Bs), i + q = 8 ∧ iv = .int .i64 (i : Int) ∧ m.length = l.length + i ∧ Hid (m = l ++ (num8 n).take i ∧ Put w B (.slice A l.length c) l wr bv m))
  case atStart => exact ⟨0, l, by omega, rfl, by omega, Lib.hid ⟨by simp, HO.out, Chg.refl _ _, fun k hk => .inl hk⟩⟩
  case round =>
    obtain ⟨i, m, hi, rfl, hm, HR⟩ := hrel
    have hm2 : m.length ≤ 100000008 := by omega
    clear hm
    by_cases hlt : i < 8
    · obtain ⟨ho2, hc2, hk2⟩ := HR.out.2
      obtain ⟨A2, c2, rfl, _⟩ := own_slice ho2
      have hsz := hc2.size
      go_wp2_with (at_builtin; refine wpList_app_el _ rfl _ _ 69 rfl B 5 (.int .u8 0) 1 1 Tryz.underlying69 byte_info rfl (by omega) _ m.length _ rfl (ho2.alloc _) _ 1 [.int .u8 ((n : Int) / 2 ^ (8 * i) % 256)] rfl rfl (Holds.new _ _ _) (by simp [Value.oneCell']) (by omega) (by omega) (by simp; omega) ?_)
      intro v1 w1 ho1 hg1 hn1
      have HX : Hid (Put w B (.slice A l.length c) l w1 v1 (l ++ (num8 n).take (i + 1))) := by
        have e1 : (num8 n).take (i + 1) = (num8 n).take i ++ [UInt8.ofNat (n / 256 ^ i)] := by
          rw [List.take_add_one, num8_get hlt]; rfl
        have e2 : ((n : Int) / 2 ^ (8 * i) % 256) = ((UInt8.ofNat (n / 256 ^ i)).toNat : Int) := by
          rw [UInt8.toNat_ofNat']
          have e3 : (2 : Nat) ^ (8 * i) = 256 ^ i := by rw [Nat.pow_mul]
          rw [← e3]
          push_cast
          rfl
        have e4 : l ++ (num8 n).take (i + 1) = m ++ [UInt8.ofNat (n / 256 ^ i)] := by rw [e1, HR.out.1, List.append_assoc]
        refine ⟨?_, ?_, ?_⟩
        · rw [e4, u8L_append, List.length_append, List.length_singleton]
          rw [e2] at ho1
          exact ho1
        · exact (hc2.alloc _).trans (Chg.grown hg1) (fun k hk e => by
            rcases hk2 k e.symm with h | h
            · exact h
            · omega)
        · intro k hk
          rcases hn1.old k hk with h | h
          · exact hk2 k h
          · simp at h; exact .inr (by omega)
      have hln : (l ++ (num8 n).take (i + 1)).length = l.length + (i + 1) := by rw [List.length_append, List.length_take, num8_len]; omega
      obtain ⟨A3, c3, rfl, _⟩ := own_slice2 ho1
      clear ho1 hg1 hn1 ho2 hc2 hk2 HR
      go_wp2_with fail
      go_roundg (gk - 1)
      case measure => omega
      case rel => exact ⟨i + 1, _, by omega, by go_num, hln, Lib.hid ⟨rfl, HX.out⟩⟩
    · obtain rfl : i = 8 := by omega
      have hmm : m = l ++ num8 n := by rw [HR.out.1, List.take_of_length_le (by rw [num8_len]; exact Nat.le_refl _)]
      have HX := Lib.hid HR.out.2
      rw [hmm] at HX
      clear HR hmm
      go_wp2_with fail
      go_ret
      exact ⟨_, rfl, HX.out⟩
theorem Put.refl {w : World} {B : Nat} {v : Value} {l : Bs} (h : w.ownsRow B 5 1 v l.length (u8L l)) : Put w B v l w v l := ⟨h, Chg.refl _ _, fun _ hk => .inl hk⟩
theorem Put.trans {w w1 w2 : World} {B : Nat} {v v1 v2 : Value} {l l1 l2 : Bs} (h : Put w B v l w1 v1 l1) (h2 : Put w1 B v1 l1 w2 v2 l2) : Put w B v l w2 v2 l2 :=
  ⟨h2.1, h.2.1.trans h2.2.1 (fun k hk e => (h.2.2 k e).elim id (fun h3 => by omega)), fun k hk => by
    rcases h2.2.2 k hk with h3 | h3
    · exact h.2.2 k h3
    · have := h.2.1.size; exact .inr (by omega)⟩
theorem Put.size {w w1 : World} {B : Nat} {v v1 : Value} {l l1 : Bs} (h : Put w B v l w1 v1 l1) : w.heap.size ≤ w1.heap.size := h.2.1.size
set_option maxRecDepth 100000 in
set_option maxHeartbeats 2000000 in
theorem text_any (l : Bs) (v : Value) (w : World) (B : Nat) (hB : B ≤ w.heap.size) (ho : w.ownsRow B 5 1 v l.length (u8L l)) (hl : l.length ≤ 50000000) (s : ByteArray) (hs : s.size ≤ 1000000000) :
    Calls Tryz.prog 48 #[v, .string s] w fun e w' => ∃ v', e = .returned v' ∧ Put w B v l w' v' (l ++ text8B s.data.toList) := by
  have hn := number_any l v w B hB ho (by omega) s.size hs
  have hln : (l ++ num8 s.size).length ≤ 50000008 := by rw [List.length_append, num8_len]; omega
  obtain ⟨m, hm⟩ : ∃ m, l ++ num8 s.size = m := ⟨_, rfl⟩
  rw [hm] at hn hln
  have HM := Lib.hid hm
  clear hm
  obtain ⟨A, c, rfl, hc⟩ := own_slice ho
  clear ho
  go_enter Tryz.func48, Tryz.ntmps48
  go_wp2_with fail
  refine hn.mono ?_
  clear hn
  rintro e w1 ⟨v1, rfl, hp1⟩
  have hsz := hp1.size
  obtain ⟨A1, c1, rfl, _⟩ := own_slice hp1.1
  have ho1 := hp1.1
  have HP1 := Lib.hid hp1
  clear hp1
  go_wp2_with (at_builtin; refine wpList_app_string _ rfl _ _ 69 9 rfl B 5 Tryz.underlying69 Tryz.underlying9 byte_info _ m.length (u8L m) rfl ho1 s rfl (by omega) (by omega) ?_)
  intro v2 w2 ho2 hg2 hn2
  have HX : Hid (Put w B (.slice A l.length c) l w2 v2 (l ++ text8B s.data.toList)) := by
    refine HP1.out.trans ?_
    have e4 : l ++ text8B s.data.toList = m ++ s.data.toList := by
      rw [← HM.out, List.append_assoc]
      unfold text8B
      simp
    rw [e4]
    refine ⟨?_, Chg.grown hg2 |>.mono (fun k _ e => e.symm), fun k hk => hn2.old k hk⟩
    rw [u8L_append, List.length_append]
    have e5 : s.data.toList.length = s.size := by simp
    rw [e5]
    exact ho2
  obtain ⟨A3, c3, rfl, _⟩ := own_slice2 ho2
  clear ho2 hg2 hn2 ho1
  go_wp2_with fail
  go_ret
  exact ⟨_, rfl, HX.out⟩
end Go.Proofs.YtmldpehkacemfaaGreatDoor
namespace Go.Bd
open Go.RowKit
theorem own_copy_less {P : Program} (w : World) (t ty : TypeId) (base : Nat) (e : TypeId) (ht : P.underlying t = some (.slice e)) (hi : (P.info? e).map (·.size) = some 1)
    (g n cap m : Nat) (zs xs : List Value) (hown : w.ownsRow base e 1 (.slice (some ⟨g, 0, none⟩) n cap) n zs)
    (b off c : Nat) (hm : m ≤ n) (hl : xs.length = m) (hc : ∀ (j : Nat) u, xs[j]? = some u → w.cell? ⟨b, off + j, none⟩ = some u) (h1 : ∀ u ∈ xs, u.oneCell' = true) :
    ∃ w', (Builtin.copy_ #[t, t] ty #[.slice (some ⟨g, 0, none⟩) n cap, .slice (some ⟨b, off, none⟩) m c]).run P w = .ok (goInt m) w' ∧ w'.ownsRow base e 1 (.slice (some ⟨g, 0, none⟩) n cap) n (xs ++ zs.drop m) ∧ w.grownBy w' (some g) := by
  rcases hown.2 with ⟨h0, _⟩ | ⟨g', cap', cur, hv, hb, hh, hnc, hcm, hcs, htk⟩
  · cases h0
  injection hv with e1 e2 e3
  injection e1 with e1
  injection e1 with e1
  subst e1; subst e3
  have hr := run_copy_row (P := P) (ty := ty) w t t e g 0 n cap ⟨b, off, none⟩ m c cur e xs ht hi hh (by rw [hl]; exact (Nat.min_eq_left hm).symm) (fun j u hj => by rw [Addr.add_lit]; exact hc j u hj) (by rw [hl, hcs]; omega) h1
  rw [hl] at hr
  have hzl := hown.1
  refine ⟨_, hr, ⟨by rw [List.length_append, List.length_drop, hl, hzl]; omega, .inr ⟨g, cap, _, rfl, hb, setRow_heap w g cur _ e _ hh, hnc, hcm, ?_, ?_⟩⟩, ⟨rfl, rfl, rfl, by simp, fun k _ hk => setRow_other w g k _ (fun e => hk (by simp [e]))⟩⟩
  · simp; omega
  · rw [← htk]
    simp only [Nat.mul_one, Nat.zero_add, List.take_zero, List.nil_append, List.toList_toArray]
    rw [List.take_append, hl, List.take_of_length_le (by omega), List.drop_take]
end Go.Bd
namespace Go.Proofs.YtmldpehkacemfaaGreatDoor
open Go.RowKit Go.Bd
def FilesR (w : World) (B : Nat) (v : Value) (l : List (ByteArray × Bs)) : Prop := ∃ A c, v = .slice A l.length c ∧ l.length ≤ c ∧ ∀ (j : Nat) f, l[j]? = some f → ∃ b off, A = some ⟨b, off, none⟩ ∧ b < B ∧ w.cell? ⟨b, off + j * 2, none⟩ = some (.string f.1) ∧ w.cell? ⟨b, off + j * 2 + 1, none⟩ = some (.string ⟨f.2.toArray⟩)
def TextsR (w : World) (B : Nat) (v : Value) (l : List ByteArray) : Prop := ∃ A c, v = .slice A l.length c ∧ l.length ≤ c ∧ ∀ (j : Nat) s, l[j]? = some s → ∃ b off, A = some ⟨b, off, none⟩ ∧ b < B ∧ w.cell? ⟨b, off + j, none⟩ = some (.string s)
theorem FilesR.below {w w' : World} {B : Nat} {v : Value} {l : List (ByteArray × Bs)} (h : FilesR w B v l) (hb : Below B w w') : FilesR w' B v l := by
  obtain ⟨A, c, e, hc, h1⟩ := h
  refine ⟨A, c, e, hc, fun j f hf => ?_⟩
  obtain ⟨b, off, h2, h3, h4, h5⟩ := h1 j f hf
  exact ⟨b, off, h2, h3, (hb.cell (p := ⟨b, off + j * 2, none⟩) h3).trans h4, (hb.cell (p := ⟨b, off + j * 2 + 1, none⟩) h3).trans h5⟩
theorem TextsR.below {w w' : World} {B : Nat} {v : Value} {l : List ByteArray} (h : TextsR w B v l) (hb : Below B w w') : TextsR w' B v l := by
  obtain ⟨A, c, e, hc, h1⟩ := h
  refine ⟨A, c, e, hc, fun j f hf => ?_⟩
  obtain ⟨b, off, h2, h3, h4⟩ := h1 j f hf
  exact ⟨b, off, h2, h3, (hb.cell (p := ⟨b, off + j, none⟩) h3).trans h4⟩
def BySt (W0 : World) (B1 : Nat) (w : World) (v : Value) (m : Bs) : Prop := w.ownsRow B1 5 1 v m.length (u8L m) ∧ Below B1 W0 w
theorem BySt.put {W0 w w' : World} {B1 : Nat} {v v' : Value} {m m' : Bs} (h : BySt W0 B1 w v m) (h0 : B1 ≤ W0.heap.size) (hp : Put w B1 v m w' v' m') : BySt W0 B1 w' v' m' :=
  ⟨hp.1, h.2.trans (hp.2.1.toBelow (by have := h.2.size; omega) (fun k hk => (h.1.lt k hk).1))⟩
set_option maxRecDepth 100000 in
set_option maxHeartbeats 1000000 in
theorem bytes_any (rm : List ByteArray) (wr0 : List (ByteArray × Bs)) (rv wv : Value) (w : World) (B : Nat) (hB : B ≤ w.heap.size) (hR : TextsR w B rv rm) (hW : FilesR w B wv wr0)
    (hrm : rm.length ≤ 100000) (hwr : wr0.length ≤ 100000) (R : Bs) (hRd : R = rm.flatMap fun s => text8B s.data.toList) (W : Bs) (hWd : W = wr0.flatMap fun f => text8B f.1.data.toList ++ text8B f.2) (hsz : R.length + W.length ≤ 10000000) (T : Bs) (hT : T = num8 rm.length ++ R ++ (num8 wr0.length ++ W)) :
    Calls Tryz.prog 27 #[.agg #[rv, wv]] w fun e w' => ∃ v', e = .returned v' ∧ w'.ownsRow w.heap.size 5 1 v' (num8 (8 + T.length) ++ T).length (u8L (num8 (8 + T.length) ++ T)) ∧ Below w.heap.size w w' := by
  obtain ⟨Ar, cr, rfl, hcr, hr1⟩ := hR
  obtain ⟨Aw, cw, rfl, hcw, hw1⟩ := hW
  have HRR := Lib.hid hr1
  have HWW := Lib.hid hw1
  have HD := Lib.hid (And.intro hRd (And.intro hWd hT))
  obtain ⟨nr, hnr⟩ : ∃ nr, rm.length = nr := ⟨_, rfl⟩
  obtain ⟨nw, hnw⟩ : ∃ nw, wr0.length = nw := ⟨_, rfl⟩
  rw [hnr] at hcr hrm
  rw [hnw] at hcw hwr
  rw [hnr, hnw]
  have HN := Lib.hid (And.intro hnr hnw)
  clear hr1 hw1 hRd hWd hT hnr hnw
  go_enter Tryz.func27, Tryz.ntmps27
  go_wp2_with fail
  obtain ⟨W0, hW0⟩ : ∃ W0, w.alloc (.cells #[.slice Ar nr cr, .slice Aw nw cw] 64) = W0 := ⟨_, rfl⟩
  have hN0 := Holds.new w 64 #[.slice Ar nr cr, .slice Aw nw cw]
  have hbw : Below w.heap.size w W0 := by rw [← hW0]; exact (Below.refl _ _).alloc (Nat.le_refl _) _
  have hz0 : W0.heap.size = w.heap.size + 1 := by rw [← hW0]; simp
  rw [hW0] at hN0
  (try rw [hW0])
  obtain ⟨bx, hbx⟩ : ∃ bx, w.heap.size = bx := ⟨_, rfl⟩
  have HBX := Lib.hid (And.intro hbx (And.intro hbw hz0))
  rw [hbx] at hN0
  (try rw [hbx])
  have hB1 : bx + 1 ≤ W0.heap.size := by omega
  have hBb : B ≤ bx := by omega
  have x0 := hN0.cell 0
  have x1 := hN0.cell 1
  simp at x0 x1
  clear hW0 hbx hbw hz0
  have HX0 := Lib.hid hN0
  clear hN0
  have s0 : BySt W0 (bx + 1) W0 (.slice none 0 0) [] := ⟨World.ownsRow_nil _ _ _ _, Below.refl _ _⟩
  have n1 := number_any [] (.slice none 0 0) W0 (bx + 1) hB1 s0.1 (by simp) 0 (by omega)
  have HS0 := Lib.hid s0
  clear s0
  refine n1.mono ?_
  clear n1
  rintro e w1 ⟨v1, rfl, hp1⟩
  have s1 := HS0.out.put hB1 hp1
  rw [List.nil_append] at s1
  have hz1 := s1.2.size
  obtain ⟨A1, c1, rfl, _⟩ := own_slice s1.1
  have y0 := (s1.2.cell (p := ⟨bx, 0, none⟩) (by show bx < bx + 1; omega)).trans x0
  have n2 := number_any (num8 0) _ w1 (bx + 1) (by omega) s1.1 (by rw [num8_len]; omega) nr (by omega)
  have HS1 := Lib.hid s1
  clear s1 hp1
  rw [num8_len] at n2
  (try rw [num8_len])
  go_wp2_with fail
  refine n2.mono ?_
  clear n2
  rintro e w2 ⟨v2, rfl, hp2⟩
  rw [← num8_len 0] at hp2
  have s2 := HS1.out.put hB1 hp2
  have hz2 := s2.2.size
  have z0 := (s2.2.cell (p := ⟨bx, 0, none⟩) (by show bx < bx + 1; omega)).trans x0
  obtain ⟨m2, hm2⟩ : ∃ m2, num8 0 ++ num8 nr = m2 := ⟨_, rfl⟩
  have hl2 : m2.length ≤ 16 := by rw [← hm2, List.length_append, num8_len, num8_len]; omega
  rw [hm2] at s2
  have HM2 := Lib.hid hm2
  obtain ⟨A2, c2, rfl, _⟩ := own_slice s2.1
  have HS2 := Lib.hid s2
  clear s2 hp2 hm2 y0
  go_wp2_with fail
  go_loopg [3, 17] nr (fun q bv iv wr => ∃ (k : Nat) (m : Bs), k + q = nr ∧ iv = .int .i64 (k : Int) ∧ m.length ≤ 10000100 ∧ Hid (m = m2 ++ (rm.take k).flatMap (fun s => text8B s.data.toList) ∧ BySt W0 (bx + 1) wr bv m))
  case atStart => exact ⟨0, m2, by omega, rfl, by omega, Lib.hid ⟨by simp, HS2.out⟩⟩
  case round =>
    obtain ⟨k, m, hk, rfl, hml, HR⟩ := hrel
    have hst := HR.out.2
    have hzr := hst.2.size
    obtain ⟨A3, c3, rfl, _⟩ := own_slice hst.1
    by_cases hlt : k < nr
    · obtain ⟨s, hs⟩ : ∃ s, rm[k]? = some s := ⟨_, List.getElem?_eq_getElem (by rw [HN.out.1]; exact hlt)⟩
      obtain ⟨b, off, rfl, hb, hc⟩ := HRR.out k s hs
      have q0 := (hst.2.cell (p := ⟨b, off + k, none⟩) (by show b < bx + 1; omega)).trans ((HBX.out.2.1.cell (p := ⟨b, off + k, none⟩) (by show b < w.heap.size; have := HBX.out.1; omega)).trans hc)
      have hnx : Hid ((rm.take (k + 1)).flatMap (fun s => text8B s.data.toList) = (rm.take k).flatMap (fun s => text8B s.data.toList) ++ text8B s.data.toList) := Lib.hid (by rw [List.take_add_one, hs, List.flatMap_append]; simp)
      have hle : Hid (((rm.take (k + 1)).flatMap (fun s => text8B s.data.toList)).length ≤ R.length) := Lib.hid (by
        rw [HD.out.1]
        conv => rhs; rw [← List.take_append_drop (k + 1) rm, List.flatMap_append, List.length_append]
        omega)
      have h8 : (text8B s.data.toList).length = 8 + s.size := by unfold text8B; rw [List.length_append, num8_len]; simp
      have hml2 : m.length + (8 + s.size) ≤ 10000100 := by
        have h1 := hle.out
        rw [hnx.out, List.length_append, h8] at h1
        rw [HR.out.1, List.length_append]
        omega
      have ht := text_any m _ wr (bx + 1) (by omega) hst.1 (by omega) s (by omega)
      have HT := Lib.hid ht
      have HST := Lib.hid hst
      clear ht hst hc hs
      go_wp2_with fail
      refine HT.out.mono ?_
      rintro e w3 ⟨v3, rfl, hp3⟩
      have s3 := HST.out.put hB1 hp3
      obtain ⟨m', hm'⟩ : ∃ m', m ++ text8B s.data.toList = m' := ⟨_, rfl⟩
      have hl' : m'.length ≤ 10000100 := by rw [← hm', List.length_append, h8]; omega
      rw [hm'] at s3
      have HM' := Lib.hid hm'
      have HS3 := Lib.hid s3
      clear hp3 s3 hm'
      obtain ⟨A4, c4, rfl, _⟩ := own_slice2 HS3.out.1
      go_wp2_with fail
      go_roundg (gk - 1)
      case measure => omega
      case rel => exact ⟨k + 1, m', by omega, by go_num, hl', Lib.hid ⟨by rw [hnx.out, ← HM'.out, HR.out.1, List.append_assoc], HS3.out⟩⟩
    · obtain rfl : k = nr := by omega
      have hmR : m = m2 ++ R := by rw [HR.out.1, HD.out.1, List.take_of_length_le (by rw [HN.out.1]; exact Nat.le_refl _)]
      have z1 := (hst.2.cell (p := ⟨bx, 1, none⟩) (by show bx < bx + 1; omega)).trans x1
      have n3 := number_any m _ wr (bx + 1) (by omega) hst.1 (by omega) nw (by omega)
      have HN3 := Lib.hid n3
      have HST := Lib.hid hst
      have HMR := Lib.hid hmR
      clear n3 hst hmR HR
      obtain ⟨wO, hwO⟩ : ∃ x, x = wr := ⟨_, rfl⟩
      subst hwO
      go_wp2_with fail
      refine HN3.out.mono ?_
      rintro e w3 ⟨v3, rfl, hp3⟩
      have s3 := HST.out.put hB1 hp3
      have hz3 := s3.2.size
      have z2 := (s3.2.cell (p := ⟨bx, 1, none⟩) (by show bx < bx + 1; omega)).trans x1
      obtain ⟨m3, hm3⟩ : ∃ m3, m ++ num8 nw = m3 := ⟨_, rfl⟩
      have hl3 : m3.length ≤ 10000200 := by rw [← hm3, List.length_append, num8_len]; omega
      rw [hm3] at s3
      have HM3 := Lib.hid hm3
      obtain ⟨A4, c4, rfl, _⟩ := own_slice2 s3.1
      have HS3 := Lib.hid s3
      clear s3 hp3 hm3
      go_wp2_with fail
      go_loopg [3, 33] nw (fun q bv iv wr => ∃ (k : Nat) (m : Bs), k + q = nw ∧ iv = .int .i64 (k : Int) ∧ m.length ≤ 20001000 ∧ Hid (m = m3 ++ (wr0.take k).flatMap (fun f => text8B f.1.data.toList ++ text8B f.2) ∧ BySt W0 (bx + 1) wr bv m))
      case atStart => exact ⟨0, m3, by omega, rfl, by omega, Lib.hid ⟨by simp, HS3.out⟩⟩
      case round =>
        obtain ⟨k, m, hk, rfl, hml, HR⟩ := hrel
        have hst := HR.out.2
        have hzr := hst.2.size
        obtain ⟨A5, c5, rfl, _⟩ := own_slice hst.1
        by_cases hlt : k < nw
        · obtain ⟨f, hf⟩ : ∃ f, wr0[k]? = some f := ⟨_, List.getElem?_eq_getElem (by rw [HN.out.2]; exact hlt)⟩
          obtain ⟨b, off, rfl, hb, hc0, hc1⟩ := HWW.out k f hf
          have q0 := (hst.2.cell (p := ⟨b, off + k * 2, none⟩) (by show b < bx + 1; omega)).trans ((HBX.out.2.1.cell (p := ⟨b, off + k * 2, none⟩) (by show b < w.heap.size; have := HBX.out.1; omega)).trans hc0)
          have q1 := (hst.2.cell (p := ⟨b, off + k * 2 + 1, none⟩) (by show b < bx + 1; omega)).trans ((HBX.out.2.1.cell (p := ⟨b, off + k * 2 + 1, none⟩) (by show b < w.heap.size; have := HBX.out.1; omega)).trans hc1)
          have hnx : Hid ((wr0.take (k + 1)).flatMap (fun f => text8B f.1.data.toList ++ text8B f.2) = (wr0.take k).flatMap (fun f => text8B f.1.data.toList ++ text8B f.2) ++ (text8B f.1.data.toList ++ text8B f.2)) := Lib.hid (by rw [List.take_add_one, hf, List.flatMap_append]; simp)
          have hle : Hid (((wr0.take (k + 1)).flatMap (fun f => text8B f.1.data.toList ++ text8B f.2)).length ≤ W.length) := Lib.hid (by
            rw [HD.out.2.1]
            conv => rhs; rw [← List.take_append_drop (k + 1) wr0, List.flatMap_append, List.length_append]
            omega)
          have h8 : (text8B f.1.data.toList).length = 8 + f.1.size := by unfold text8B; rw [List.length_append, num8_len]; simp
          have h9 : (text8B f.2).length = 8 + f.2.length := by unfold text8B; rw [List.length_append, num8_len]
          have hml2 : m.length + (8 + f.1.size) + (8 + f.2.length) ≤ 20001000 := by
            have h1 := hle.out
            rw [hnx.out, List.length_append, List.length_append, h8, h9] at h1
            rw [HR.out.1, List.length_append]
            omega
          obtain ⟨gx, hgx⟩ : ∃ gx : ByteArray, ⟨f.2.toArray⟩ = gx := ⟨_, rfl⟩
          have hgs : gx.size = f.2.length := by rw [← hgx, size_mk]
          have HGX := Lib.hid hgx
          rw [hgx] at q1
          have HST := Lib.hid hst
          clear hst hc0 hc1 hf hgx
          go_wp2_with fail
          obtain ⟨W1, hW1⟩ : ∃ W1, (wr.alloc (.cells #[.string f.1, .string gx] 50)) = W1 := ⟨_, rfl⟩
          have hN1 := Holds.new wr 50 #[.string f.1, .string gx]
          have hz1' : W1.heap.size = wr.heap.size + 1 := by rw [← hW1]; simp
          have hs1 : BySt W0 (bx + 1) W1 (.slice A5 m.length c5) m := by
            rw [← hW1]
            exact ⟨HST.out.1.alloc _, HST.out.2.alloc (by omega) _⟩
          rw [hW1] at hN1
          (try rw [hW1])
          obtain ⟨fx, hfx⟩ : ∃ fx, wr.heap.size = fx := ⟨_, rfl⟩
          rw [hfx] at hN1
          (try rw [hfx])
          have f0 := hN1.cell 0
          have f1 := hN1.cell 1
          simp at f0 f1
          have hfo : (Value.slice A5 m.length c5).ownBlock ≠ some fx := fun e => by have := (HST.out.1.lt fx e).2; omega
          have HT1 := Lib.hid (text_any m _ W1.drew (bx + 1) (by show bx + 1 ≤ W1.heap.size; omega) hs1.1 (by omega) f.1 (by omega))
          have HS1 := Lib.hid hs1
          clear hW1 hs1 hN1
          obtain ⟨m7, hm7⟩ : ∃ m7, m ++ text8B f.1.data.toList = m7 := ⟨_, rfl⟩
          have hl7 : m7.length + (8 + f.2.length) ≤ 20001000 := by rw [← hm7, List.length_append, h8]; omega
          rw [hm7] at HT1
          have HM7 := Lib.hid hm7
          clear hm7
          have HK : Hid (∀ w7 v7, Put W1.drew (bx + 1) (.slice A5 m.length c5) m w7 v7 m7 → ∃ A7 c7, v7 = .slice A7 m7.length c7 ∧ w7.cell? ⟨fx, 1, none⟩ = some (.string gx) ∧ Calls Tryz.prog 48 #[v7, .string gx] w7 fun e w' => ∃ v', (∃ A8 c8, v' = .slice A8 (m7 ++ text8B f.2).length c8) ∧ e = .returned v' ∧ BySt W0 (bx + 1) w' v' (m7 ++ text8B f.2)) := Lib.hid fun w7 v7 hp7 => by
            have hs7 : BySt W0 (bx + 1) w7 v7 m7 := BySt.put (w := W1.drew) ⟨HS1.out.1, HS1.out.2.drew⟩ hB1 hp7
            have hz7 := hs7.2.size
            obtain ⟨A7, c7, hv7, _⟩ := own_slice hs7.1
            refine ⟨A7, c7, hv7, hp7.2.1.cell (p := ⟨fx, 1, none⟩) hfo f1, (text_any m7 v7 w7 (bx + 1) (by omega) hs7.1 (by omega) gx (by omega)).mono ?_⟩
            rintro e w8 ⟨v8, rfl, hp8⟩
            have e9 : gx.data.toList = f.2 := by rw [← HGX.out]
            rw [e9] at hp8
            have hs8 := hs7.put hB1 hp8
            obtain ⟨A8, c8, hv8, _⟩ := own_slice hs8.1
            exact ⟨v8, ⟨A8, c8, hv8⟩, rfl, hs8⟩
          have HT1' : Calls Tryz.prog 48 #[.slice A5 m.length c5, .string f.1] W1.drew fun e w' => ∃ v', e = .returned v' ∧ Put W1.drew (bx + 1) (.slice A5 m.length c5) m w' v' m7 := HT1.out
          obtain ⟨m8, hm8⟩ : ∃ m8, m7 ++ text8B f.2 = m8 := ⟨_, rfl⟩
          have hl8 : m8.length ≤ 20001000 := by rw [← hm8, List.length_append, h9]; omega
          rw [hm8] at HK
          have HM8 := Lib.hid hm8
          clear hm8
          go_region_with (first
            | (go_at_call 48; with_reducible refine Calls.mono HT1' ?_; rintro e w7 ⟨v7, rfl, hp7⟩; obtain ⟨A7, c7, rfl, hk7⟩ := HK.out w7 v7 hp7; have f17 := hk7.1; have HT7 := hk7.2; clear hk7 hp7)
            | (go_at_call 48; with_reducible refine Calls.mono HT7 ?_; rintro e w8 ⟨v8, ⟨A8, c8, rfl⟩, rfl, hs8⟩; have HS8 := Lib.hid hs8; clear hs8))
          all_goals (
            go_wp2
            go_roundg (gk - 1)
            case measure => omega
            case rel => exact ⟨k + 1, m8, by omega, by go_num, hl8, Lib.hid ⟨by rw [hnx.out, ← HM8.out, ← HM7.out, HR.out.1]; simp, HS8.out⟩⟩)
        · obtain rfl : k = nw := by omega
          have hmW : m = m3 ++ W := by rw [HR.out.1, HD.out.2.1, List.take_of_length_le (by rw [HN.out.2]; exact Nat.le_refl _)]
          have hmT : m = num8 0 ++ T := by
            rw [hmW, ← HM3.out, HMR.out, ← HM2.out, HD.out.2.2, HN.out.1, HN.out.2]
            simp
          have hL8 : m.length = 8 + T.length := by rw [hmT, List.length_append, num8_len]
          obtain ⟨g5, c5', hv5, _, _, _, _, _⟩ := own_some hst.1 (by omega)
          obtain ⟨rfl, rfl⟩ : A5 = some ⟨g5, 0, none⟩ ∧ c5 = c5' := by injection hv5 with a1 a2 a3; exact ⟨a1, a3⟩
          have n9 := number_any [] (.slice none 0 0) wr (bx + 1) (by omega) (World.ownsRow_nil _ _ _ _) (by simp) m.length (by omega)
          have HST := Lib.hid hst
          have HMT := Lib.hid (And.intro hmT hL8)
          obtain ⟨L, hL⟩ : ∃ L, m.length = L := ⟨_, rfl⟩
          have HL := Lib.hid hL
          rw [hL] at n9
          (try rw [hL])
          have hLb : 8 ≤ L ∧ L ≤ 20001000 := by omega
          have HN9 := Lib.hid n9
          clear n9 hst hmT hL8 hL hv5 hmW HR
          obtain ⟨wO, hwO⟩ : ∃ x, x = wr := ⟨_, rfl⟩
          subst hwO
          go_wp2_with fail
          refine HN9.out.mono ?_
          rintro e w9 ⟨v9, rfl, hp9⟩
          have ho9 := hp9.1
          rw [List.nil_append] at ho9
          obtain ⟨g9, c9, hv9, _, _, _, _, _⟩ := own_some ho9 (by rw [num8_len]; omega)
          subst hv9
          have hod : w9.ownsRow (bx + 1) 5 1 (.slice (some ⟨g5, 0, none⟩) m.length c5) m.length (u8L m) := hp9.2.1.owns HST.out.1 (fun k _ e => by cases e)
          rw [HL.out] at hod
          rw [num8_len] at ho9
          obtain ⟨w6, hcp, hown6, hgr6⟩ := own_copy_less (P := Tryz.prog) w9 69 3 (bx + 1) 5 Tryz.underlying69 (by kernel_rfl) g5 L c5 8 _ (u8L (num8 L)) hod g9 0 c9 hLb.1 (by rw [u8L_length, num8_len]) (fun j u hu => by rw [Nat.zero_add]; exact own_cell ho9 hu) (fun u hu => u8L_one hu)
          have hb9 : Below (bx + 1) W0 w9 := (HST.out.2).trans (hp9.2.1.toBelow (by have := HST.out.2.size; omega) (fun k e => by cases e))
          have hb6 : Below (bx + 1) W0 w6 := hb9.trans ((Chg.grown hgr6).toBelow (by have := hb9.size; omega) (fun k e => by injection e with e; have := (hod.lt g5 rfl).1; omega))
          have HF : Hid (w6.ownsRow (bx + 1) 5 1 (.slice (some ⟨g5, 0, none⟩) L c5) L (u8L (num8 L ++ T))) := Lib.hid (by
            have e1 : u8L (num8 L) ++ (u8L m).drop 8 = u8L (num8 L ++ T) := by
              rw [HMT.out.1]
              unfold u8L
              rw [← List.map_drop, ← List.map_append, List.drop_left' (num8_len 0)]
            rw [← e1]; exact hown6)
          have HB6 := Lib.hid hb6
          (try rw [num8_len])
          clear ho9 hod hown6 hgr6 hb9 hb6 hp9
          go_wp2_with fail
          go_ret
          have hLT : L = 8 + T.length := by rw [← HL.out]; exact HMT.out.2
          refine ⟨_, rfl, ?_, ?_⟩
          · rw [← hLT]
            have e2 : (num8 L ++ T).length = L := by rw [List.length_append, num8_len, hLT]
            rw [e2]
            exact own_mono HF.out (by have := HBX.out.1; omega)
          · exact HBX.out.2.1.trans (HB6.out.mono (by have := HBX.out.1; omega))
end Go.Proofs.YtmldpehkacemfaaGreatDoor
