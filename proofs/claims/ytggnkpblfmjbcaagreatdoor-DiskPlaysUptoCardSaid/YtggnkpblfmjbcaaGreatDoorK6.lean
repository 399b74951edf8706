/-
  What the chapter's laws share, part 6: plain facts, memory, and walks of functions. Its conditions: those that each theorem names.
-/
import Derived.Deep.QuietTactic
import Derived.BigQuiet
import Derived.Test.YtggnkpblfmjbcaaGreatDoorK5
set_option linter.unusedSimpArgs false
set_option linter.unusedVariables false
namespace Go.Proofs.YtggnkpblfmjbcaaGreatDoor
open Go.RowKit Go.Bd
abbrev bookCells : Array Value := #[.int .i64 0, .slice none 0 0, .slice none 0 0, .slice none 0 0, .slice none 0 0, .slice none 0 0, .slice none 0 0, .slice none 0 0, .slice none 0 0, .slice none 0 0, .slice none 0 0, .slice none 0 0, .slice none 0 0, .slice none 0 0, .slice none 0 0, .slice none 0 0, .slice none 0 0, .slice none 0 0]
set_option maxRecDepth 100000 in
theorem texts_any {O : Nat → Option Obj} {B : Nat} {w W : World} {bk : Nat} {cs : Array Value} {A : Option Addr} {c : Nat} {es : List Ent} (hs : TxSt O B w W bk cs A c es) {n : Nat} (h0 : cs[0]? = some (.int .i64 (n : Int))) (hn : n < 1000000)
    (vA : Option Addr) (len vc : Nat) (hlt : ∀ (i : Nat) f b, es[i]? = some f → f.v.ownBlock = some b → b < W.heap.size)
    (hv : ∀ b, (Value.slice vA len vc).ownBlock = some b → b < W.heap.size ∧ b ≠ bk ∧ (Value.slice A es.length c).ownBlock ≠ some b ∧ O b = none ∧ ∀ (i : Nat) f, es[i]? = some f → f.v.ownBlock ≠ some b)
    (hl : es.length < 1000000) (hle : len ≤ 2147483647) :
    Calls Tryz.prog 27 #[.pointer (some ⟨bk, 0, none⟩), .slice vA len vc] W fun e W' => e = .returned (.tuple #[]) ∧
      ∃ A' c', TxSt O B w W' bk ((cs.setIfInBounds 0 (.int .i64 ((n + 1 : Nat) : Int))).setIfInBounds 3 (.slice A' (es.length + 1) c')) A' c' (es ++ [⟨.slice vA len vc, .slice none 0 0, n + 1, len⟩]) ∧ Chg W W' (fun b => b = bk ∨ some b = (Value.slice A es.length c).ownBlock) ∧ ∀ b, (Value.slice A' (es.length + 1) c').ownBlock = some b → (Value.slice A es.length c).ownBlock = some b ∨ W.heap.size ≤ b := by
  have ck := keepText_any hs h0 hn vA len vc hlt hv hl hle
  have CK := Lib.hid ck
  clear ck hs h0 hlt hv
  go_enter Tryz.func27, Tryz.ntmps27
  go_wp2_with fail
  refine CK.out.mono ?_
  rintro e W' ⟨rfl, h⟩
  have H := Lib.hid h
  clear h
  go_wp2
  go_end0
  exact ⟨rfl, H.out⟩
theorem tx_new {B : Nat} {w W : World} {bk : Nat} {cs : Array Value} (hb : Below B w W) (wB : B ≤ w.heap.size) (ht : Tab W) (tB : 0 < B) (bkB : B ≤ bk) (hh : Holds W bk 54 cs) (h3 : cs[3]? = some (.slice none 0 0)) :
    TxSt (fun _ => none) B w W bk cs none 0 [] :=
  ⟨hb, wB, ht, tB, bkB, hh, h3, World.ownsRow_nil _ _ _ _, (by intro h; cases h), (fun _ _ h => by simp at h), (fun _ _ _ _ _ h => by simp at h), (fun _ _ h => by cases h), (fun _ _ h => by cases h), (fun _ _ _ h => by simp at h), (by simp), (fun _ _ h => by simp at h)⟩
set_option maxRecDepth 100000 in
theorem ByteB.bytes_any {O : Nat → Option Obj} {B : Nat} {w W : World} {bk : Nat} {cs : Array Value} {A : Option Addr} {c : Nat} {es : List Ent} (hs : ByteB.TxSt O B w W bk cs A c es) {n : Nat} (h0 : cs[0]? = some (.int .i64 (n : Int))) (hn : n < 1000000)
    (vA : Option Addr) (len vc : Nat) (hlt : ∀ (i : Nat) f b, es[i]? = some f → f.v.ownBlock = some b → b < W.heap.size)
    (hv : ∀ b, (Value.slice vA len vc).ownBlock = some b → b < W.heap.size ∧ b ≠ bk ∧ (Value.slice A es.length c).ownBlock ≠ some b ∧ O b = none ∧ ∀ (i : Nat) f, es[i]? = some f → f.v.ownBlock ≠ some b)
    (hl : es.length < 1000000) (hle : len ≤ 2147483647) :
    Calls Tryz.prog 26 #[.pointer (some ⟨bk, 0, none⟩), .slice vA len vc] W fun e W' => e = .returned (.tuple #[]) ∧
      ∃ A' c', ByteB.TxSt O B w W' bk ((cs.setIfInBounds 0 (.int .i64 ((n + 1 : Nat) : Int))).setIfInBounds 1 (.slice A' (es.length + 1) c')) A' c' (es ++ [⟨.slice vA len vc, .slice none 0 0, n + 1, len⟩]) ∧ Chg W W' (fun b => b = bk ∨ some b = (Value.slice A es.length c).ownBlock) ∧ ∀ b, (Value.slice A' (es.length + 1) c').ownBlock = some b → (Value.slice A es.length c).ownBlock = some b ∨ W.heap.size ≤ b := by
  have ck := ByteB.keepByte_any hs h0 hn vA len vc hlt hv hl hle
  have CK := Lib.hid ck
  clear ck hs h0 hlt hv
  go_enter Tryz.func26, Tryz.ntmps26
  go_wp2_with fail
  refine CK.out.mono ?_
  rintro e W' ⟨rfl, h⟩
  have H := Lib.hid h
  clear h
  go_wp2
  go_end0
  exact ⟨rfl, H.out⟩
theorem ByteB.tx_new {B : Nat} {w W : World} {bk : Nat} {cs : Array Value} (hb : Below B w W) (wB : B ≤ w.heap.size) (ht : Tab W) (tB : 0 < B) (bkB : B ≤ bk) (hh : Holds W bk 54 cs) (h3 : cs[1]? = some (.slice none 0 0)) :
    ByteB.TxSt (fun _ => none) B w W bk cs none 0 [] :=
  ⟨hb, wB, ht, tB, bkB, hh, h3, World.ownsRow_nil _ _ _ _, (by intro h; cases h), (fun _ _ h => by simp at h), (fun _ _ _ _ _ h => by simp at h), (fun _ _ h => by cases h), (fun _ _ h => by cases h), (fun _ _ _ h => by simp at h), (by simp), (fun _ _ h => by simp at h)⟩
section
variable {O : Nat → Option Obj} {B : Nat} {w W W' : World} {bk : Nat} {cs cs' : Array Value} {A : Option Addr} {c : Nat} {es : List Ent}
theorem TxSt.turn (h : TxSt O B w W bk cs A c es) (hb : Below B w W') (ht : Tab W') (hbk : Holds W' bk 54 cs') (c3 : cs'[3]? = some (.slice A es.length c)) (he : ∀ b, Rel A c es b → W'.heap[b]? = W.heap[b]?) : TxSt (fun _ => Option.none) B w W' bk cs' A c es :=
  ⟨hb, h.wB, ht, h.tabB, h.bkB, hbk, c3, owns_eq h.row (fun k hk => he k (.inl hk)), h.bkr, h.ap, h.un, (fun _ _ h => by cases h), (fun _ _ h => by cases h), (fun _ _ _ _ _ => rfl), h.sm⟩
theorem ByteB.TxSt.turn (h : ByteB.TxSt O B w W bk cs A c es) (hb : Below B w W') (ht : Tab W') (hbk : Holds W' bk 54 cs') (c3 : cs'[1]? = some (.slice A es.length c)) (he : ∀ b, Rel A c es b → W'.heap[b]? = W.heap[b]?) : ByteB.TxSt (fun _ => Option.none) B w W' bk cs' A c es :=
  ⟨hb, h.wB, ht, h.tabB, h.bkB, hbk, c3, owns_eq h.row (fun k hk => he k (.inl hk)), h.bkr, h.ap, h.un, (fun _ _ h => by cases h), (fun _ _ h => by cases h), (fun _ _ _ _ _ => rfl), h.sm⟩
end
structure KeptAt (w W : World) (bk n : Nat) (M : Nat → Prop) (cs : Array Value) (A : Option Addr) (c : Nat) (es : List Ent) (A2 : Option Addr) (c2 : Nat) (js : List Ent) : Prop where
  two : S2 w.heap.size w W bk cs A c es A2 c2 js
  fT : Fl w.heap.size W es 0
  fI : ByteB.Fl w.heap.size W js 0
  cn : NoneOf cs
  nT : ∀ (i : Nat) e, es[i]? = some e → e.lg.ownBlock = none
  nI : ∀ (i : Nat) e, js[i]? = some e → e.lg.ownBlock = none
  c0 : cs[0]? = some (.int .i64 (n : Int))
  le : es.length ≤ n ∧ js.length ≤ n
  bkM : M bk
  esM : ∀ b, Rel A c es b → M b
  jsM : ∀ b, Rel A2 c2 js b → M b
  lt : ∀ b, M b → b < W.heap.size
def Kept (w W : World) (bk n : Nat) (M : Nat → Prop) : Prop := ∃ cs A c es A2 c2 js, KeptAt w W bk n M cs A c es A2 c2 js
theorem Kept.below {w W : World} {bk n : Nat} {M : Nat → Prop} (h : Kept w W bk n M) : Below w.heap.size w W := by
  obtain ⟨cs, A, c, es, A2, c2, js, h⟩ := h
  exact h.two.T.hb
theorem Kept.lt {w W : World} {bk n : Nat} {M : Nat → Prop} (h : Kept w W bk n M) : ∀ b, M b → b < W.heap.size := by
  obtain ⟨cs, A, c, es, A2, c2, js, h⟩ := h
  exact h.lt
theorem Kept.chg {w W W' : World} {bk n : Nat} {M S : Nat → Prop} (h : Kept w W bk n M) (hc : Chg W W' S) (hS : ∀ k, S k → w.heap.size ≤ k ∧ ¬ M k) : Kept w W' bk n M := by
  obtain ⟨cs, A, c, es, A2, c2, js, h⟩ := h
  refine ⟨cs, A, c, es, A2, c2, js, ⟨h.two.T.chg hc (fun k hk => ⟨(hS k hk).1, rfl⟩) (fun h' => (hS bk h').2 h.bkM) (fun b hb h' => (hS b h').2 (h.esM b (.inl hb))), h.two.I.chg hc (fun k hk => ⟨(hS k hk).1, rfl⟩) (fun h' => (hS bk h').2 h.bkM) (fun b hb h' => (hS b h').2 (h.jsM b (.inl hb))), h.two.ap⟩,
    h.fT.chg hc (fun j e he b hb h' => (hS b h').2 (h.esM b (.inr ⟨j, e, he, .inl hb⟩))), h.fI.chg hc (fun j e he b hb h' => (hS b h').2 (h.jsM b (.inr ⟨j, e, he, .inl hb⟩))), h.cn, h.nT, h.nI, h.c0, h.le, h.bkM, h.esM, h.jsM, fun b hb => Nat.lt_of_lt_of_le (h.lt b hb) hc.size⟩
theorem Kept.keep {w W W' : World} {bk n : Nat} {M : Nat → Prop} (h : Kept w W bk n M) (hb : Below W.heap.size W W') : Kept w W' bk n M := h.chg (Chg.below hb (fun _ => False)) (fun _ h => h.elim)
theorem Kept.more {w W : World} {bk n : Nat} {M M' : Nat → Prop} (h : Kept w W bk n M) (hM : ∀ b, M b → M' b) (hl : ∀ b, M' b → b < W.heap.size) : Kept w W bk n M' := by
  obtain ⟨cs, A, c, es, A2, c2, js, h⟩ := h
  exact ⟨cs, A, c, es, A2, c2, js, h.two, h.fT, h.fI, h.cn, h.nT, h.nI, h.c0, h.le, hM _ h.bkM, fun b hb => hM b (h.esM b hb), fun b hb => hM b (h.jsM b hb), hl⟩
theorem none_new : NoneOf bookCells := fun i hi => by
  have : i = 2 ∨ i = 4 ∨ i = 5 ∨ i = 6 ∨ i = 7 ∨ i = 8 ∨ i = 9 ∨ i = 10 ∨ i = 11 ∨ i = 12 ∨ i = 13 ∨ i = 14 ∨ i = 15 ∨ i = 16 ∨ i = 17 := by omega
  rcases this with rfl | rfl | rfl | rfl | rfl | rfl | rfl | rfl | rfl | rfl | rfl | rfl | rfl | rfl | rfl <;> rfl
theorem Kept.new {w W : World} (hb : Below w.heap.size w W) (ht : Tab W) (tB : 0 < w.heap.size) : Kept w (W.alloc (.cells bookCells 54)) W.heap.size 0 (fun b => b = W.heap.size) := by
  have h1 := hb.alloc hb.size (.cells bookCells 54)
  have h2 : Tab (W.alloc (.cells bookCells 54)) := ht.below ((Below.refl W.heap.size W).alloc (Nat.le_refl _) _) ht.lt
  have T := tx_new h1 (Nat.le_refl _) h2 tB hb.size (Holds.new W _ _) (by rfl)
  have I := ByteB.tx_new h1 (Nat.le_refl _) h2 tB hb.size (Holds.new W _ _) (by rfl)
  have hR : ∀ b, ¬ Rel none 0 [] b := fun b h => by rcases h with h | ⟨i, e, h, _⟩; cases h; simp at h
  exact ⟨_, _, _, _, _, _, _, ⟨T, I, fun b h _ => hR b h⟩, fun _ _ h => by simp at h, fun _ _ h => by simp at h, none_new, fun _ _ h => by simp at h, fun _ _ h => by simp at h, rfl, by simp, rfl, fun b h => (hR b h).elim, fun b h => (hR b h).elim, fun b hb => by subst hb; simp⟩
theorem cs_at {cs : Array Value} {i j : Nat} {u v x : Value} (h : cs[j]? = some x) (h0 : 0 ≠ j) (hi : i ≠ j) : ((cs.setIfInBounds 0 u).setIfInBounds i v)[j]? = some x := by
  rw [Array.getElem?_setIfInBounds_ne hi, Array.getElem?_setIfInBounds_ne h0]; exact h
theorem cs_none {cs : Array Value} {i : Nat} {u v : Value} (h : NoneOf cs) (hi : i = 1 ∨ i = 3) : NoneOf ((cs.setIfInBounds 0 u).setIfInBounds i v) := fun k hk => cs_at (h k hk) (by omega) (by omega)
theorem cs_zero {cs : Array Value} {i : Nat} {u v x : Value} (h : cs[0]? = some x) (hi : i ≠ 0) : ((cs.setIfInBounds 0 u).setIfInBounds i v)[0]? = some u := by
  rw [Array.getElem?_setIfInBounds_ne hi, Array.getElem?_setIfInBounds_self_of_lt (Array.getElem?_eq_some_iff.1 h).1]
theorem Kept.bytes {w W : World} {bk n : Nat} {M : Nat → Prop} (h : Kept w W bk n M) (hn : n < 100000) {vA : Option Addr} {len vc : Nat} {xs : List Value} (ho : W.ownsRow w.heap.size 5 1 (.slice vA len vc) len xs) (hf : ∀ b, (Value.slice vA len vc).ownBlock = some b → ¬ M b) (hle : len ≤ 2147483647) :
    Calls Tryz.prog 26 #[.pointer (some ⟨bk, 0, none⟩), .slice vA len vc] W fun e W' => e = .returned (.tuple #[]) ∧ Kept w W' bk (n + 1) (fun b => M b ∨ (Value.slice vA len vc).ownBlock = some b ∨ (W.heap.size ≤ b ∧ b < W'.heap.size)) ∧ Chg W W' M := by
  obtain ⟨cs, A, c, es, A2, c2, js, h⟩ := h
  have hlen := h.le
  refine (ByteB.bytes_any h.two.I h.c0 (by omega) vA len vc (fun i f b hi hb => h.lt b (h.jsM b (.inr ⟨i, f, hi, .inl hb⟩))) (fun b hb => ⟨(ho.lt b hb).2, fun e => hf b hb (e ▸ h.bkM), fun e => hf b hb (h.jsM b (.inl e)), rfl, fun i f hi e => hf b hb (h.jsM b (.inr ⟨i, f, hi, .inl e⟩))⟩) (by omega) hle).mono ?_
  rintro e W' ⟨rfl, A', c', I', C', L'⟩
  have hC : Chg W W' M := C'.mono (fun k _ hk => by
    rcases hk with rfl | hk
    · exact h.bkM
    · exact h.jsM k (.inl hk.symm))
  have hO : ∀ b, Rel A c es b → W'.heap[b]? = W.heap[b]? := fun b hb => C'.block b (h.lt b (h.esM b hb)) (fun hk => by
    rcases hk with rfl | hk
    · exact (rel_fl h.two.T h.fT h.nT b hb).2 rfl
    · exact h.two.ap b hb (.inl hk.symm))
  have hT := h.two.T.turn I'.hb I'.tab I'.hbk (cs_at h.two.T.c3 (by omega) (by omega)) hO
  have hR : ∀ b, Rel A' c' (js ++ [⟨.slice vA len vc, .slice none 0 0, n + 1, len⟩]) b → Rel A2 c2 js b ∨ W.heap.size ≤ b ∨ (Value.slice vA len vc).ownBlock = some b := fun b hb => by
    rcases hb with hb | ⟨j, e, he, hb⟩
    · rw [List.length_append, List.length_singleton] at hb
      rcases L' b hb with h1 | h1
      · exact .inl (.inl h1)
      · exact .inr (.inl h1)
    · by_cases hj : j < js.length
      · rw [List.getElem?_append_left hj] at he
        exact .inl (.inr ⟨j, e, he, hb⟩)
      · rw [List.getElem?_append_right (by omega)] at he
        obtain ⟨h1, h2⟩ := List.getElem?_eq_some_iff.1 he
        simp at h1 h2
        subst h2
        rcases hb with hb | hb
        · exact .inr (.inr hb)
        · cases hb
  have hNew : ∀ b, Rel A c es b → ¬ Rel A' c' (js ++ [⟨.slice vA len vc, .slice none 0 0, n + 1, len⟩]) b := fun b h1 h2 => by
    rcases hR b h2 with h3 | h3 | h3
    · exact h.two.ap b h1 h3
    · have := h.lt b (h.esM b h1); omega
    · exact hf b h3 (h.esM b h1)
  have hlt' : ∀ b, (fun b => M b ∨ (Value.slice vA len vc).ownBlock = some b ∨ (W.heap.size ≤ b ∧ b < W'.heap.size)) b → b < W'.heap.size := fun b hb => by
    rcases hb with hb | hb | hb
    · exact Nat.lt_of_lt_of_le (h.lt b hb) hC.size
    · exact Nat.lt_of_lt_of_le (ho.lt b hb).2 hC.size
    · exact hb.2
  have hm : ∀ b, Rel A' c' (js ++ [⟨.slice vA len vc, .slice none 0 0, n + 1, len⟩]) b → (fun b => M b ∨ (Value.slice vA len vc).ownBlock = some b ∨ (W.heap.size ≤ b ∧ b < W'.heap.size)) b := fun b hb => by
    rcases hR b hb with h3 | h3 | h3
    · exact .inl (h.jsM b h3)
    · refine .inr (.inr ⟨h3, ?_⟩)
      rcases hb with hb | ⟨j, e, he, hb⟩
      · exact (I'.row.lt b hb).2
      · by_cases hj : j < js.length
        · rw [List.getElem?_append_left hj] at he
          have := h.lt b (h.jsM b (.inr ⟨j, e, he, hb⟩)); omega
        · rw [List.getElem?_append_right (by omega)] at he
          obtain ⟨h1, h2⟩ := List.getElem?_eq_some_iff.1 he
          simp at h1 h2
          subst h2
          rcases hb with hb | hb
          · have := (ho.lt b hb).2; omega
          · cases hb
    · exact .inr (.inl h3)
  have hfl : ByteB.Fl w.heap.size W' (js ++ [⟨.slice vA len vc, .slice none 0 0, n + 1, len⟩]) 0 := fun j e he => by
    by_cases hj : j < js.length
    · rw [List.getElem?_append_left hj] at he
      refine (h.fI.chg C' (fun j e he b hb hk => ?_)) j e he
      rcases hk with rfl | hk
      · exact (h.two.I.ap j e he).1 hb
      · exact (h.two.I.ap j e he).2 b hb hk.symm
    · rw [List.getElem?_append_right (by omega)] at he
      obtain ⟨h1, h2⟩ := List.getElem?_eq_some_iff.1 he
      simp at h1 h2
      subst h2
      exact ⟨xs, C'.owns ho (fun b hb hk => by
        rcases hk with rfl | hk
        · exact hf b hb h.bkM
        · exact hf b hb (h.jsM b (.inl hk.symm))), fun hk => absurd hk (by omega)⟩
  have hnl : ∀ (i : Nat) e, (js ++ [⟨.slice vA len vc, .slice none 0 0, n + 1, len⟩])[i]? = some e → e.lg.ownBlock = none := fun j e he => by
    by_cases hj : j < js.length
    · rw [List.getElem?_append_left hj] at he
      exact h.nI j e he
    · rw [List.getElem?_append_right (by omega)] at he
      obtain ⟨h1, h2⟩ := List.getElem?_eq_some_iff.1 he
      simp at h1 h2
      subst h2
      rfl
  exact ⟨rfl, ⟨_, A, c, es, A', c', _, ⟨hT, I', hNew⟩, Fl.move (A := A) (c := c) h.fT hO, hfl, cs_none h.cn (by omega), h.nT, hnl, cs_zero h.c0 (by omega), by rw [List.length_append, List.length_singleton]; omega, .inl h.bkM, fun b hb => .inl (h.esM b hb), hm, hlt'⟩, hC⟩
theorem Kept.texts {w W : World} {bk n : Nat} {M : Nat → Prop} (h : Kept w W bk n M) (hn : n < 100000) {vA : Option Addr} {len vc : Nat} {xs : List Value} (ho : W.ownsRow w.heap.size 9 1 (.slice vA len vc) len xs) (hf : ∀ b, (Value.slice vA len vc).ownBlock = some b → ¬ M b) (hle : len ≤ 2147483647) :
    Calls Tryz.prog 27 #[.pointer (some ⟨bk, 0, none⟩), .slice vA len vc] W fun e W' => e = .returned (.tuple #[]) ∧ Kept w W' bk (n + 1) (fun b => M b ∨ (Value.slice vA len vc).ownBlock = some b ∨ (W.heap.size ≤ b ∧ b < W'.heap.size)) ∧ Chg W W' M := by
  obtain ⟨cs, A, c, es, A2, c2, js, h⟩ := h
  have hlen := h.le
  refine (texts_any h.two.T h.c0 (by omega) vA len vc (fun i f b hi hb => h.lt b (h.esM b (.inr ⟨i, f, hi, .inl hb⟩))) (fun b hb => ⟨(ho.lt b hb).2, fun e => hf b hb (e ▸ h.bkM), fun e => hf b hb (h.esM b (.inl e)), rfl, fun i f hi e => hf b hb (h.esM b (.inr ⟨i, f, hi, .inl e⟩))⟩) (by omega) hle).mono ?_
  rintro e W' ⟨rfl, A', c', I', C', L'⟩
  have hC : Chg W W' M := C'.mono (fun k _ hk => by
    rcases hk with rfl | hk
    · exact h.bkM
    · exact h.esM k (.inl hk.symm))
  have hO : ∀ b, Rel A2 c2 js b → W'.heap[b]? = W.heap[b]? := fun b hb => C'.block b (h.lt b (h.jsM b hb)) (fun hk => by
    rcases hk with rfl | hk
    · exact (ByteB.rel_fl h.two.I h.fI h.nI b hb).2 rfl
    · exact (fun b h1 h2 => h.two.ap b h2 h1) b hb (.inl hk.symm))
  have hT := h.two.I.turn I'.hb I'.tab I'.hbk (cs_at h.two.I.c3 (by omega) (by omega)) hO
  have hR : ∀ b, Rel A' c' (es ++ [⟨.slice vA len vc, .slice none 0 0, n + 1, len⟩]) b → Rel A c es b ∨ W.heap.size ≤ b ∨ (Value.slice vA len vc).ownBlock = some b := fun b hb => by
    rcases hb with hb | ⟨j, e, he, hb⟩
    · rw [List.length_append, List.length_singleton] at hb
      rcases L' b hb with h1 | h1
      · exact .inl (.inl h1)
      · exact .inr (.inl h1)
    · by_cases hj : j < es.length
      · rw [List.getElem?_append_left hj] at he
        exact .inl (.inr ⟨j, e, he, hb⟩)
      · rw [List.getElem?_append_right (by omega)] at he
        obtain ⟨h1, h2⟩ := List.getElem?_eq_some_iff.1 he
        simp at h1 h2
        subst h2
        rcases hb with hb | hb
        · exact .inr (.inr hb)
        · cases hb
  have hNew : ∀ b, Rel A2 c2 js b → ¬ Rel A' c' (es ++ [⟨.slice vA len vc, .slice none 0 0, n + 1, len⟩]) b := fun b h1 h2 => by
    rcases hR b h2 with h3 | h3 | h3
    · exact (fun b h1 h2 => h.two.ap b h2 h1) b h1 h3
    · have := h.lt b (h.jsM b h1); omega
    · exact hf b h3 (h.jsM b h1)
  have hlt' : ∀ b, (fun b => M b ∨ (Value.slice vA len vc).ownBlock = some b ∨ (W.heap.size ≤ b ∧ b < W'.heap.size)) b → b < W'.heap.size := fun b hb => by
    rcases hb with hb | hb | hb
    · exact Nat.lt_of_lt_of_le (h.lt b hb) hC.size
    · exact Nat.lt_of_lt_of_le (ho.lt b hb).2 hC.size
    · exact hb.2
  have hm : ∀ b, Rel A' c' (es ++ [⟨.slice vA len vc, .slice none 0 0, n + 1, len⟩]) b → (fun b => M b ∨ (Value.slice vA len vc).ownBlock = some b ∨ (W.heap.size ≤ b ∧ b < W'.heap.size)) b := fun b hb => by
    rcases hR b hb with h3 | h3 | h3
    · exact .inl (h.esM b h3)
    · refine .inr (.inr ⟨h3, ?_⟩)
      rcases hb with hb | ⟨j, e, he, hb⟩
      · exact (I'.row.lt b hb).2
      · by_cases hj : j < es.length
        · rw [List.getElem?_append_left hj] at he
          have := h.lt b (h.esM b (.inr ⟨j, e, he, hb⟩)); omega
        · rw [List.getElem?_append_right (by omega)] at he
          obtain ⟨h1, h2⟩ := List.getElem?_eq_some_iff.1 he
          simp at h1 h2
          subst h2
          rcases hb with hb | hb
          · have := (ho.lt b hb).2; omega
          · cases hb
    · exact .inr (.inl h3)
  have hfl : Fl w.heap.size W' (es ++ [⟨.slice vA len vc, .slice none 0 0, n + 1, len⟩]) 0 := fun j e he => by
    by_cases hj : j < es.length
    · rw [List.getElem?_append_left hj] at he
      refine (h.fT.chg C' (fun j e he b hb hk => ?_)) j e he
      rcases hk with rfl | hk
      · exact (h.two.T.ap j e he).1 hb
      · exact (h.two.T.ap j e he).2 b hb hk.symm
    · rw [List.getElem?_append_right (by omega)] at he
      obtain ⟨h1, h2⟩ := List.getElem?_eq_some_iff.1 he
      simp at h1 h2
      subst h2
      exact ⟨xs, C'.owns ho (fun b hb hk => by
        rcases hk with rfl | hk
        · exact hf b hb h.bkM
        · exact hf b hb (h.esM b (.inl hk.symm))), fun hk => absurd hk (by omega)⟩
  have hnl : ∀ (i : Nat) e, (es ++ [⟨.slice vA len vc, .slice none 0 0, n + 1, len⟩])[i]? = some e → e.lg.ownBlock = none := fun j e he => by
    by_cases hj : j < es.length
    · rw [List.getElem?_append_left hj] at he
      exact h.nT j e he
    · rw [List.getElem?_append_right (by omega)] at he
      obtain ⟨h1, h2⟩ := List.getElem?_eq_some_iff.1 he
      simp at h1 h2
      subst h2
      rfl
  exact ⟨rfl, ⟨_, A', c', _, A2, c2, js, ⟨I', hT, fun b h1 h2 => hNew b h2 h1⟩, hfl, ByteB.Fl.move (A := A2) (c := c2) h.fI hO, cs_none h.cn (by omega), hnl, h.nI, cs_zero h.c0 (by omega), by rw [List.length_append, List.length_singleton]; omega, .inl h.bkM, hm, fun b hb => .inl (h.jsM b hb), hlt'⟩, hC⟩
theorem Kept.apart {w W : World} {bk n : Nat} {M : Nat → Prop} (h : Kept w W bk n M) : Calls Tryz.prog 28 #[.pointer (some ⟨bk, 0, none⟩)] W fun e W' => e = .returned (.bool true) ∧ Below w.heap.size w W' := by
  obtain ⟨cs, A, c, es, A2, c2, js, h⟩ := h
  exact apart_any h.two h.fT h.fI h.cn h.nT h.nI
end Go.Proofs.YtggnkpblfmjbcaaGreatDoor
namespace Go.Proofs.YtggnkpblfmjbcaaGreatDoor
open Go.RowKit Go.Bd
def spareY : UInt8 := 77
def y8 (b : UInt8) : Value := .int .u8 (b.toNat : Int)
theorem y8_info : (Tryz.prog.info? 5).map (fun i => (i.zero, i.size, i.bytes)) = some (some (.int .u8 0), 1, 1) := by kernel_rfl
set_option maxRecDepth 100000 in
set_option maxHeartbeats 1000000 in
theorem twinBytes_any (v : Value) (xs : Bs) (w : World) (B : Nat) (h : BytesR w B v xs) (hB : B ≤ w.heap.size) (hl : xs.length ≤ 1048576) :
    Calls Tryz.prog 12 #[v] w fun e w' => ∃ g cap, e = .returned (.slice (some ⟨g, 0, none⟩) xs.length cap) ∧
      w'.ownsRow w.heap.size 5 1 (.slice (some ⟨g, 0, none⟩) (xs.length + 1) cap) (xs.length + 1) (xs.map y8 ++ [y8 spareY]) ∧ Below w.heap.size w w' := by
  obtain ⟨A, c, rfl, hc, f⟩ := h.form
  have F := Lib.hid f
  clear f h
  generalize hn : xs.length = n at hl hc ⊢
  have HN := Lib.hid hn
  clear hn
  have hcn : ((n + 1 : Nat) : Int) = (n : Int) + 1 := by omega
  have HC := Lib.hid hcn
  clear hcn
  go_enter Tryz.func12, Tryz.ntmps12
  go_wp2_with (at_make; refine wpList_make0 _ rfl _ _ 55 rfl w.heap.size 5 (.int .u8 0) 1 Tryz.underlying55 y8_info .i64 .i64 _ (n + 1) (by rfl) (by rfl) HC.out.symm (by omega) (by unfold maxLen; omega) (Nat.le_refl _) ?_)
  intro w1 ho1 hg1
  have hb1 : Below w.heap.size w w1 := (Below.refl _ _).grown hg1 (Nat.le_refl _) (fun k h => by cases h)
  have H1 := Lib.hid (And.intro ho1 hb1)
  clear ho1 hb1 hg1
  go_wp2
  go_loopg [3, 4] n (fun q vl vi wr => ∃ (k : Nat) (LA : Option Addr) (lc : Nat), k + q = n ∧ vi = .int .i64 (k : Int) ∧ vl = .slice LA k lc ∧ Hid (wr.ownsRow w.heap.size 5 1 (.slice LA k lc) k ((xs.map y8).take k) ∧ Below w.heap.size w wr))
  case atStart => exact ⟨0, _, _, by omega, rfl, rfl, by unfold Hid; simpa using H1.out⟩
  case round =>
    clear H1
    obtain ⟨k, LA, lc, hk, rfl, rfl, HR⟩ := hrel
    have hbs := HR.out.2.size
    by_cases hlt : k < n
    · obtain ⟨s, hs⟩ : ∃ s, xs[k]? = some s := ⟨_, List.getElem?_eq_getElem (by rw [HN.out]; exact hlt)⟩
      obtain ⟨b, off, rfl, hb, hcs⟩ := F.out k s hs
      replace hcs := (HR.out.2.cell (p := ⟨b, off + k, none⟩) (Nat.lt_of_lt_of_le hb hB)).trans hcs
      have HS := Lib.hid hs
      clear hs
      go_wp2_with (at_builtin; refine wpList_app1 _ rfl _ _ 55 rfl w.heap.size 5 (.int .u8 0) 1 Tryz.underlying55 y8_info rfl _ k _ rfl (HR.out.1.alloc _) _ 1 (.int .u8 (s.toNat : Int)) rfl (by simp) rfl (by unfold maxLen; omega) (by omega) (by simp; omega) ?_)
      intro v2 w2 ho2 hg2
      obtain ⟨LA', lc', rfl, _⟩ := own_slice ho2
      have HE : Hid (w2.ownsRow w.heap.size 5 1 (.slice LA' (k + 1) lc') (k + 1) ((xs.map y8).take (k + 1)) ∧ Below w.heap.size w w2) := by
        refine ⟨?_, (HR.out.2.alloc hbs _).grown hg2 (Nat.le_trans hbs (by simp)) (fun j hj => (HR.out.1.lt j hj).1)⟩
        rw [List.take_add_one, List.getElem?_map, HS.out]
        exact ho2
      clear ho2 hg2 HR
      go_wp2
      go_roundg (gk - 1)
      case measure => omega
      case rel => exact ⟨k + 1, LA', lc', by omega, by go_num, by rfl, HE.out⟩
    · obtain rfl : k = n := by omega
      have hown : wr.ownsRow w.heap.size 5 1 (.slice LA k lc) k (xs.map y8) := by
        have := HR.out.1
        rw [List.take_of_length_le (by rw [List.length_map, HN.out]; exact Nat.le_refl _)] at this
        exact this
      have HB := Lib.hid HR.out.2
      clear HR
      go_wp2_with (at_builtin; refine wpList_app1 _ rfl _ _ 55 rfl w.heap.size 5 (.int .u8 0) 1 Tryz.underlying55 y8_info rfl _ k _ rfl (hown.alloc _) _ 1 (y8 spareY) rfl (by simp [spareY, y8]) rfl (by unfold maxLen; omega) (by omega) (by simp; omega) ?_)
      intro v2 w2 ho2 hg2
      obtain ⟨g, cap, rfl, _, _, hcap, _⟩ := own_some ho2 (by omega)
      have hb2 := (HB.out.alloc hbs _).grown hg2 (Nat.le_trans hbs (by simp)) (fun j hj => (hown.lt j hj).1)
      have hkc : k ≤ cap := by omega
      have HE := Lib.hid (And.intro ho2 hb2)
      clear ho2 hg2 hb2 hcap hown
      go_wp2
      go_ret
      exact ⟨g, cap, rfl, HE.out⟩
set_option maxRecDepth 100000 in
set_option maxHeartbeats 1000000 in
theorem leftBytes_any (v : Value) (xs : Bs) (w : World) (B B2 g cap : Nat) (h : BytesR w B v xs) (ht : w.ownsRow B2 5 1 (.slice (some ⟨g, 0, none⟩) (xs.length + 1) cap) (xs.length + 1) (xs.map y8 ++ [y8 spareY])) (hl : xs.length ≤ 1048576) :
    Calls Tryz.prog 25 #[.slice (some ⟨g, 0, none⟩) xs.length cap, v] w fun e w' => e = .returned (.bool true) ∧ Below w.heap.size w w' := by
  obtain ⟨A, c, rfl, hc, f⟩ := h.form
  have F := Lib.hid f
  have hcl : ∀ (j : Nat) s, xs[j]? = some s → w.cell? ⟨g, j, none⟩ = some (.int .u8 (s.toNat : Int)) := fun j s hs => own_cell ht (by
    rw [List.getElem?_append_left (by rw [List.length_map]; exact (List.getElem?_eq_some_iff.1 hs).1), List.getElem?_map, hs]; rfl)
  have hsp : w.cell? ⟨g, xs.length, none⟩ = some (.int .u8 77) := own_cell ht (by
    rw [List.getElem?_append_right (by rw [List.length_map]; exact Nat.le_refl _), List.length_map, Nat.sub_self]; rfl)
  have hcap : xs.length + 1 ≤ cap := by
    obtain ⟨g', cap', hv, _, _, h1, _⟩ := own_some ht (by omega)
    injection hv with _ _ e3
    omega
  have HCL := Lib.hid hcl
  clear f h ht hcl
  generalize hn : xs.length = n at hl hc hcap hsp ⊢
  have HN := Lib.hid hn
  clear hn
  go_enter Tryz.func25, Tryz.ntmps25
  go_wp2
  go_loopg [5] n (fun q vi wr => ∃ k : Nat, k + q = n ∧ vi = .int .i64 (k : Int) ∧ Hid (Below w.heap.size w wr))
  case atStart => exact ⟨0, by omega, rfl, Below.refl _ _⟩
  case round =>
    obtain ⟨k, hk, rfl, HB⟩ := hrel
    by_cases hlt : k < n
    · obtain ⟨s, hs⟩ : ∃ s, xs[k]? = some s := ⟨_, List.getElem?_eq_getElem (by rw [HN.out]; exact hlt)⟩
      obtain ⟨b, off, rfl, hb, hcs⟩ := F.out k s hs
      have hcg := HCL.out k s hs
      have z1 := (HB.out.cell (p := ⟨b, off + k, none⟩) (World.block_lt_of_cell? w _ hcs)).trans hcs
      have z2 := (HB.out.cell (p := ⟨g, k, none⟩) (World.block_lt_of_cell? w _ hcg)).trans hcg
      clear hs hcs hcg
      go_wp2
      go_quiet (fail)
      go_wp2
      have hb2 := Go.below_drewN HB.out nq
      go_roundg (gk - 1)
      case measure => omega
      case rel => exact ⟨k + 1, by omega, by go_num, hb2⟩
    · obtain rfl : k = n := by omega
      have z1 := (HB.out.cell (p := ⟨g, k, none⟩) (World.block_lt_of_cell? w _ hsp)).trans hsp
      go_wp2
      go_ret
      exact ⟨by simp, HB.out⟩
end Go.Proofs.YtggnkpblfmjbcaaGreatDoor
