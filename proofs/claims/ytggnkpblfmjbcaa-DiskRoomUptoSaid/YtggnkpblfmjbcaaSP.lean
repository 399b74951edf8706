/-
  Plain: what a text's spans are, step by step. No condition.
-/
import Derived.Test.YtggnkpblfmjbcaaBytes
import Derived.Lib.Index
namespace Go.Bd
/-- a span -/
structure Sp where
  kind : Nat
  text : Bs
  sub : Bs
  see : Bs
  kids : List Sp
def txt (s : Bs) : Sp := ⟨0, s, [], [], []⟩
/-- spans side by side, and a text behind them -/
structure Rw where
  sp : List Sp
  tx : Bs
def Rw.none : Rw := ⟨[], []⟩
def Rw.write (r : Rw) (s : Bs) : Rw := ⟨r.sp, r.tx ++ s⟩
def Rw.flush (r : Rw) : Rw := if r.tx = [] then ⟨r.sp, []⟩ else ⟨r.sp ++ [txt r.tx], []⟩
def Rw.add (r : Rw) (x : Sp) : Rw := if x.kind = 0 then r.write x.text else ⟨r.flush.sp ++ [x], []⟩
/-- a span that is open -/
structure Fr where
  row : Rw
  kind : Nat
  sign : Bs
  at' : Nat
/-- what is open, the innermost first; the faults -/
structure Pst where
  fs : List Fr
  faults : List (Nat × Nat)
def onTop (g : Rw → Rw) : List Fr → List Fr
  | [] => []
  | f :: r => { f with row := g f.row } :: r
def Pst.top (st : Pst) (g : Rw → Rw) : Pst := { st with fs := onTop g st.fs }
def Pst.write (st : Pst) (s : Bs) : Pst := st.top (·.write s)
def Pst.tell (st : Pst) (i f : Nat) : Pst := { st with faults := st.faults ++ [(i, f)] }
def lastK (k : Nat) : List Fr → Nat
  | [] => 0
  | f :: r => if r = [] then 0 else if f.kind = k then r.length else lastK k r
def Pst.room (st : Pst) : Bool := decide (st.fs.length ≤ 16)
def Pst.begin (st : Pst) (k i : Nat) (sign : Bs) : Pst := { st with fs := ⟨Rw.none, k, sign, i⟩ :: st.fs }
/-- what was open stands where it stands -/
def spill (f : Fr) (r : Rw) : Rw := (f.row.sp.foldl Rw.add (r.write f.sign)).write f.row.tx
def Pst.drop1 (st : Pst) : Pst :=
  match st.fs with
  | f :: g :: r => ⟨onTop (spill f) (g :: r), st.faults ++ [(f.at', 7)]⟩
  | _ => st
def Pst.dropN : Nat → Pst → Pst
  | 0, st => st
  | n + 1, st => dropN n st.drop1
def Pst.drop (st : Pst) (n : Nat) : Pst := st.dropN (st.fs.length - 1 - n)
def Pst.shut (st : Pst) : Pst :=
  match st.fs with
  | f :: r => { st with fs := onTop (·.add ⟨f.kind, [], [], [], f.row.flush.sp⟩) r }
  | _ => st
def Pst.fin (st : Pst) (n : Nat) : Pst := (st.drop n).shut
/-- where a sign comes next -/
def nextAt (s : Bs) (i : Nat) (sign : Bs) : Option Nat := if Lib.index (s.drop i) sign < 0 then none else some (i + (Lib.index (s.drop i) sign).toNat)
def Pst.between (st : Pst) (s : Bs) (i : Nat) (a b : Bs) (as : Bs → Sp ⊕ Nat) : Pst × Nat :=
  match nextAt s (i + a.length) b with
  | none => ((st.write a).tell i 7, i + a.length)
  | some n =>
    match as ((s.drop (i + a.length)).take (n - (i + a.length))) with
    | .inr f => ((st.write ((s.drop i).take (n + b.length - i))).tell i f, n + b.length)
    | .inl x => (st.top (·.add x), n + b.length)
def escB (c : UInt8) : Bool := c == 42 || c == 95 || c == 60 || c == 40 || c == 94 || c == 93 || c == 92 || c == 96
def solid (c : UInt8) : Bool := (65 ≤ c && c ≤ 90) || (97 ≤ c && c ≤ 122) || (48 ≤ c && c ≤ 57)
def letterB (c : UInt8) : Bool := (65 ≤ c && c ≤ 90) || (97 ≤ c && c ≤ 122)
def nameB (l : Bs) : Bool := decide (1 ≤ l.length) && decide (l.length ≤ 60) && letterB (l.headD 0) && l.all fun c => solid c || c == 45
def codeS (l : Bs) : Sp ⊕ Nat := .inl ⟨3, l, [], [], []⟩
def refS (l : Bs) : Sp ⊕ Nat := if nameB l = true then .inl ⟨4, l, [], [], []⟩ else .inr 10
def termS (l : Bs) : Sp ⊕ Nat := match parseB l with | some (a, b, c) => .inl ⟨5, a, b, c, []⟩ | none => .inr 8
def atOf (fs : List Fr) (n : Nat) : Nat := match fs.reverse[n]? with | some f => f.at' | none => 0
def Pst.mark (st : Pst) (s : Bs) (i k : Nat) : Pst :=
  if lastK k st.fs > 0 ∧ atOf st.fs (lastK k st.fs) + 1 ≠ i ∧ 0 < i ∧ blank (s.getD (i - 1) 0) = false ∧ ¬ (i + 1 < s.length ∧ solid (s.getD (i + 1) 0) = true) then st.fin (lastK k st.fs)
  else if (0 < i ∧ solid (s.getD (i - 1) 0) = true) ∨ s.length ≤ i + 1 ∨ blank (s.getD (i + 1) 0) = true then st.write [s.getD i 0]
  else if st.room = false then (st.write [s.getD i 0]).tell i 7
  else st.begin k i [s.getD i 0]
/-- what stands at a place; where it goes on -/
def Pst.step (st : Pst) (s : Bs) (i : Nat) : Pst × Nat :=
  if s.getD i 0 = 92 ∧ i + 1 < s.length ∧ escB (s.getD (i + 1) 0) = true then (st.write [s.getD (i + 1) 0], i + 2)
  else if s.getD i 0 = 96 then st.between s i [96] [96] codeS
  else if [60, 60].isPrefixOf (s.drop i) = true then st.between s i [60, 60] [62, 62] refS
  else if [40, 40].isPrefixOf (s.drop i) = true then st.between s i [40, 40] [41, 41] termS
  else if [94, 91].isPrefixOf (s.drop i) = true then (if st.room = true then st.begin 6 i [94, 91] else (st.write [94, 91]).tell i 7, i + 2)
  else if s.getD i 0 = 93 ∧ 0 < lastK 6 st.fs then (st.fin (lastK 6 st.fs), i + 1)
  else if s.getD i 0 = 42 then (st.mark s i 1, i + 1)
  else if s.getD i 0 = 95 then (st.mark s i 2, i + 1)
  else (st.write [s.getD i 0], i + 1)
def Pst.first : Pst := ⟨[⟨Rw.none, 0, [], 0⟩], []⟩
def runP (s : Bs) : Nat → Nat → Pst → Pst
  | 0, _, st => st
  | n + 1, i, st => if i < s.length then runP s n (st.step s i).2 (st.step s i).1 else st
/-- a text's state at its end, all that was open dropped -/
def endP (s : Bs) : Pst := (runP s s.length 0 Pst.first).drop 0
def spansOf (s : Bs) : List Sp := match (endP s).fs with | f :: _ => f.row.flush.sp | [] => []
def faultsAt (s : Bs) : List (Nat × Nat) := (endP s).faults
end Go.Bd
