/-
  Walks: a Book of rows of texts, ints and texts.
-/
import Derived.Test.YtkfffoolpdilnaaGreatDoorRbook
import Derived.Test.YtkfffoolpdilnaaGreatDoorTwG
namespace Go.Proofs.YtkfffoolpdilnaaGreatDoor
open Go.RowKit Go.Bd
set_option maxRecDepth 100000 in
theorem ints_any {O : Nat → Option Obj} {B : Nat} {w W : World} {bk : Nat} {cs : Array Value} {A : Option Addr} {c : Nat} {es : List Ent} (hs : IntB.TxSt O B w W bk cs A c es) {n : Nat} (h0 : cs[0]? = some (.int .i64 (n : Int))) (hn : n < 1000000)
    (vA : Option Addr) (len vc : Nat) (hlt : ∀ (i : Nat) f b, es[i]? = some f → f.v.ownBlock = some b → b < W.heap.size)
    (hv : ∀ b, (Value.slice vA len vc).ownBlock = some b → b < W.heap.size ∧ b ≠ bk ∧ (Value.slice A es.length c).ownBlock ≠ some b ∧ O b = none ∧ ∀ (i : Nat) f, es[i]? = some f → f.v.ownBlock ≠ some b)
    (hl : es.length < 1000000) (hle : len ≤ 2147483647) :
    Calls Tryz.prog 15 #[.pointer (some ⟨bk, 0, none⟩), .slice vA len vc] W fun e W' => e = .returned (.tuple #[]) ∧
      ∃ A' c', IntB.TxSt O B w W' bk ((cs.setIfInBounds 0 (.int .i64 ((n + 1 : Nat) : Int))).setIfInBounds 2 (.slice A' (es.length + 1) c')) A' c' (es ++ [⟨.slice vA len vc, .slice none 0 0, n + 1, len⟩]) ∧ Chg W W' (fun b => b = bk ∨ some b = (Value.slice A es.length c).ownBlock) ∧ ∀ b, (Value.slice A' (es.length + 1) c').ownBlock = some b → (Value.slice A es.length c).ownBlock = some b ∨ W.heap.size ≤ b := by
  have ck := IntB.keepInt_any hs h0 hn vA len vc hlt hv hl hle
  have CK := Lib.hid ck
  clear ck hs h0 hlt hv
  go_enter Tryz.func15, Tryz.ntmps15
  go_wp2_with fail
  refine CK.out.mono ?_
  rintro e W' ⟨rfl, h⟩
  have H := Lib.hid h
  clear h
  go_wp2
  go_end0
  exact ⟨rfl, H.out⟩
section
variable {O : Nat → Option Obj} {B : Nat} {w W W' : World} {bk : Nat} {cs cs' : Array Value} {A : Option Addr} {c : Nat} {es : List Ent}
theorem TxSt.turn (h : TxSt O B w W bk cs A c es) (hb : Below B w W') (ht : Tab W') (hbk : Holds W' bk 50 cs') (c3 : cs'[3]? = some (.slice A es.length c)) (he : ∀ b, Rel A c es b → W'.heap[b]? = W.heap[b]?) : TxSt (fun _ => Option.none) B w W' bk cs' A c es :=
  ⟨hb, h.wB, ht, h.tabB, h.bkB, hbk, c3, owns_eq h.row (fun k hk => he k (.inl hk)), h.bkr, h.ap, h.un, (fun _ _ h => by cases h), (fun _ _ h => by cases h), (fun _ _ _ _ _ => rfl), h.sm⟩
theorem IntB.TxSt.turn (h : IntB.TxSt O B w W bk cs A c es) (hb : Below B w W') (ht : Tab W') (hbk : Holds W' bk 50 cs') (c3 : cs'[2]? = some (.slice A es.length c)) (he : ∀ b, Rel A c es b → W'.heap[b]? = W.heap[b]?) : IntB.TxSt (fun _ => Option.none) B w W' bk cs' A c es :=
  ⟨hb, h.wB, ht, h.tabB, h.bkB, hbk, c3, owns_eq h.row (fun k hk => he k (.inl hk)), h.bkr, h.ap, h.un, (fun _ _ h => by cases h), (fun _ _ h => by cases h), (fun _ _ _ _ _ => rfl), h.sm⟩
end
/-- a Book that has been told of the first rows of a grid -/
structure Told (w W : World) (bk : Nat) (cs : Array Value) (A : Option Addr) (c : Nat) (ls : List (List ByteArray)) (gs : List (Nat × Nat)) (lo i : Nat) (es : List Ent) : Prop where
  tx : TxSt (fun _ => none) w.heap.size w W bk cs A c es
  len : es.length = i
  c0 : cs[0]? = some (.int .i64 (i : Int))
  c2 : cs[2]? = some (.slice none 0 0)
  cn : NoneOf cs
  ent : ∀ (j : Nat) e, es[j]? = some e → ∃ r p, ls[j]? = some r ∧ gs[j]? = some p ∧ e = ⟨.slice (some ⟨p.1, 0, none⟩) r.length p.2, .slice none 0 0, j + 1, r.length⟩
  row : ∀ b, (Value.slice A es.length c).ownBlock = some b → lo ≤ b
theorem Told.step {w W W' : World} {bk : Nat} {cs : Array Value} {A A' : Option Addr} {c c' : Nat} {ls : List (List ByteArray)} {gs : List (Nat × Nat)} {lo i : Nat} {es : List Ent} {r : List ByteArray} {p : Nat × Nat} (h : Told w W bk cs A c ls gs lo i es) (hr : ls[i]? = some r) (hp : gs[i]? = some p) (hlo : lo ≤ W.heap.size)
    (ht : TxSt (fun _ => none) w.heap.size w W' bk ((cs.setIfInBounds 0 (.int .i64 ((i + 1 : Nat) : Int))).setIfInBounds 3 (.slice A' (es.length + 1) c')) A' c' (es ++ [⟨.slice (some ⟨p.1, 0, none⟩) r.length p.2, .slice none 0 0, i + 1, r.length⟩]))
    (hL : ∀ b, (Value.slice A' (es.length + 1) c').ownBlock = some b → (Value.slice A es.length c).ownBlock = some b ∨ W.heap.size ≤ b) :
    Told w W' bk ((cs.setIfInBounds 0 (.int .i64 ((i + 1 : Nat) : Int))).setIfInBounds 3 (.slice A' (es.length + 1) c')) A' c' ls gs lo (i + 1) (es ++ [⟨.slice (some ⟨p.1, 0, none⟩) r.length p.2, .slice none 0 0, i + 1, r.length⟩]) := by
  have hsz : 0 < cs.size := (Array.getElem?_eq_some_iff.1 h.c0).1
  refine ⟨ht, by simp [h.len], ?_, ?_, fun j hj => ?_, fun j e he => ?_, fun b hb => ?_⟩
  · rw [Array.getElem?_setIfInBounds_ne (by omega), Array.getElem?_setIfInBounds_self_of_lt hsz]
  · rw [Array.getElem?_setIfInBounds_ne (by omega), Array.getElem?_setIfInBounds_ne (by omega)]
    exact h.c2
  · rw [Array.getElem?_setIfInBounds_ne (by omega), Array.getElem?_setIfInBounds_ne (by omega)]
    exact h.cn j hj
  · by_cases hj : j < es.length
    · rw [List.getElem?_append_left hj] at he
      exact h.ent j e he
    · rw [List.getElem?_append_right (by omega)] at he
      obtain ⟨h1, h2⟩ := List.getElem?_eq_some_iff.1 he
      simp at h1 h2
      have hji : j = i := by have := h.len; omega
      subst hji
      exact ⟨r, p, hr, hp, h2.symm⟩
  · rw [List.length_append, List.length_singleton] at hb
    rcases hL b hb with h1 | h1
    · exact h.row b h1
    · omega
end Go.Proofs.YtkfffoolpdilnaaGreatDoor
