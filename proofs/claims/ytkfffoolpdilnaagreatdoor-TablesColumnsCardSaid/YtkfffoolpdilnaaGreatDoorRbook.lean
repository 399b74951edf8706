/-
  Walks: a new Book, and texts that it is told of.
-/
import Derived.Test.YtkfffoolpdilnaaGreatDoorBkA
namespace Go.Proofs.YtkfffoolpdilnaaGreatDoor
open Go.RowKit Go.Bd
/-- a new Book's cells -/
abbrev bookCells : Array Value := #[.int .i64 0, .slice none 0 0, .slice none 0 0, .slice none 0 0, .slice none 0 0, .slice none 0 0, .slice none 0 0, .slice none 0 0, .slice none 0 0, .slice none 0 0, .slice none 0 0, .slice none 0 0, .slice none 0 0, .slice none 0 0, .slice none 0 0, .slice none 0 0, .slice none 0 0, .slice none 0 0]
set_option maxRecDepth 100000 in
theorem texts_any {O : Nat → Option Obj} {B : Nat} {w W : World} {bk : Nat} {cs : Array Value} {A : Option Addr} {c : Nat} {es : List Ent} (hs : TxSt O B w W bk cs A c es) {n : Nat} (h0 : cs[0]? = some (.int .i64 (n : Int))) (hn : n < 1000000)
    (vA : Option Addr) (len vc : Nat) (hlt : ∀ (i : Nat) f b, es[i]? = some f → f.v.ownBlock = some b → b < W.heap.size)
    (hv : ∀ b, (Value.slice vA len vc).ownBlock = some b → b < W.heap.size ∧ b ≠ bk ∧ (Value.slice A es.length c).ownBlock ≠ some b ∧ O b = none ∧ ∀ (i : Nat) f, es[i]? = some f → f.v.ownBlock ≠ some b)
    (hl : es.length < 1000000) (hle : len ≤ 2147483647) :
    Calls Tryz.prog 14 #[.pointer (some ⟨bk, 0, none⟩), .slice vA len vc] W fun e W' => e = .returned (.tuple #[]) ∧
      ∃ A' c', TxSt O B w W' bk ((cs.setIfInBounds 0 (.int .i64 ((n + 1 : Nat) : Int))).setIfInBounds 3 (.slice A' (es.length + 1) c')) A' c' (es ++ [⟨.slice vA len vc, .slice none 0 0, n + 1, len⟩]) ∧ Chg W W' (fun b => b = bk ∨ some b = (Value.slice A es.length c).ownBlock) ∧ ∀ b, (Value.slice A' (es.length + 1) c').ownBlock = some b → (Value.slice A es.length c).ownBlock = some b ∨ W.heap.size ≤ b := by
  have ck := keepText_any hs h0 hn vA len vc hlt hv hl hle
  have CK := Lib.hid ck
  clear ck hs h0 hlt hv
  go_enter Tryz.func14, Tryz.ntmps14
  go_wp2_with fail
  refine CK.out.mono ?_
  rintro e W' ⟨rfl, h⟩
  have H := Lib.hid h
  clear h
  go_wp2
  go_end0
  exact ⟨rfl, H.out⟩
theorem tx_new {B : Nat} {w W : World} {bk : Nat} {cs : Array Value} (hb : Below B w W) (wB : B ≤ w.heap.size) (ht : Tab W) (tB : 3 < B) (bkB : B ≤ bk) (hh : Holds W bk 50 cs) (h3 : cs[3]? = some (.slice none 0 0)) :
    TxSt (fun _ => none) B w W bk cs none 0 [] :=
  ⟨hb, wB, ht, tB, bkB, hh, h3, World.ownsRow_nil _ _ _ _, (by intro h; cases h), (fun _ _ h => by simp at h), (fun _ _ _ _ _ h => by simp at h), (fun _ _ h => by cases h), (fun _ _ h => by cases h), (fun _ _ _ h => by simp at h), (by simp), (fun _ _ h => by simp at h)⟩
theorem IntB.tx_new {B : Nat} {w W : World} {bk : Nat} {cs : Array Value} (hb : Below B w W) (wB : B ≤ w.heap.size) (ht : Tab W) (tB : 3 < B) (bkB : B ≤ bk) (hh : Holds W bk 50 cs) (h3 : cs[2]? = some (.slice none 0 0)) :
    IntB.TxSt (fun _ => none) B w W bk cs none 0 [] :=
  ⟨hb, wB, ht, tB, bkB, hh, h3, World.ownsRow_nil _ _ _ _, (by intro h; cases h), (fun _ _ h => by simp at h), (fun _ _ _ _ _ h => by simp at h), (fun _ _ h => by cases h), (fun _ _ h => by cases h), (fun _ _ _ h => by simp at h), (by simp), (fun _ _ h => by simp at h)⟩
/-- texts alone -/
theorem apart_texts {B : Nat} {w W : World} {bk : Nat} {cs : Array Value} {A : Option Addr} {c : Nat} {es : List Ent} (h : TxSt (fun _ => none) B w W bk cs A c es) (hT : Fl B W es 0) (h2 : cs[2]? = some (.slice none 0 0)) (hz : NoneOf cs)
    (nT : ∀ (i : Nat) e, es[i]? = some e → e.lg.ownBlock = none) :
    Calls Tryz.prog 16 #[.pointer (some ⟨bk, 0, none⟩)] W fun e W' => e = .returned (.bool true) ∧ Below B w W' :=
  apart_any ⟨h, IntB.tx_new h.hb h.wB h.tab h.tabB h.bkB h.hbk h2, fun b _ h => by rcases h with h | ⟨i, e, h, _⟩; cases h; simp at h⟩ hT (fun _ _ h => by simp at h) hz nT (fun _ _ h => by simp at h)
end Go.Proofs.YtkfffoolpdilnaaGreatDoor
