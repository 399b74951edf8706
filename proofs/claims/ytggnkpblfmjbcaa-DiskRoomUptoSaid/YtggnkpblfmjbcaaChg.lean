/-
  Memory: what changes and what stays; rows of structs; trees of spans. No condition.
-/
import Derived.Test.YtggnkpblfmjbcaaSP
import Derived.Test.YtggnkpblfmjbcaaMem
import Derived.Test.YtggnkpblfmjbcaaVec
namespace Go.Bd
open Go.RowKit
/-- all blocks that were there are as they were, but for those of S -/
structure Chg (w w' : World) (S : Nat → Prop) : Prop where
  os : w'.os = w.os
  tape : w'.tape = w.tape
  output : w'.output = w.output
  size : w.heap.size ≤ w'.heap.size
  block : ∀ k, k < w.heap.size → ¬ S k → w'.heap[k]? = w.heap[k]?
section
variable {w w' w'' : World} {S T : Nat → Prop}
theorem Chg.refl (w : World) (S : Nat → Prop) : Chg w w S := ⟨rfl, rfl, rfl, Nat.le_refl _, fun _ _ _ => rfl⟩
theorem Chg.trans (h : Chg w w' S) (h2 : Chg w' w'' T) (hT : ∀ k, k < w.heap.size → T k → S k) : Chg w w'' S :=
  ⟨h2.os.trans h.os, h2.tape.trans h.tape, h2.output.trans h.output, Nat.le_trans h.size h2.size, fun k hk hs =>
    (h2.block k (Nat.lt_of_lt_of_le hk h.size) (fun ht => hs (hT k hk ht))).trans (h.block k hk hs)⟩
theorem Chg.mono (h : Chg w w' S) (hT : ∀ k, k < w.heap.size → S k → T k) : Chg w w' T := ⟨h.os, h.tape, h.output, h.size, fun k hk ht => h.block k hk (fun hs => ht (hT k hk hs))⟩
theorem Chg.alloc (h : Chg w w' S) (o : Obj) : Chg w (w'.alloc o) S :=
  ⟨h.os, h.tape, h.output, Nat.le_trans h.size (by simp), fun k hk hs => (Below.heap_alloc w' o k (Nat.lt_of_lt_of_le hk h.size)).trans (h.block k hk hs)⟩
theorem Chg.drew (h : Chg w w' S) : Chg w w'.drew S := ⟨h.os, h.tape, h.output, h.size, h.block⟩
theorem Chg.drewN (h : Chg w w' S) (n : Nat) : Chg w (w'.drewN n) S := ⟨h.os, h.tape, h.output, h.size, h.block⟩
theorem Chg.grown {row : Option Nat} (h : w.grownBy w' row) : Chg w w' (fun k => some k = row) := ⟨h.os, h.tape, h.output, h.size, fun k hk hs => h.block k hk hs⟩
theorem Chg.below (h : Below w.heap.size w w') (S : Nat → Prop) : Chg w w' S := ⟨h.os, h.tape, h.output, h.size, fun k hk _ => h.block k hk⟩
theorem Chg.toBelow {B : Nat} (h : Chg w w' S) (hB : B ≤ w.heap.size) (hS : ∀ k, S k → B ≤ k) : Below B w w' :=
  ⟨h.os, h.tape, h.output, h.size, fun k hk => h.block k (by omega) (fun hs => by have := hS k hs; omega)⟩
theorem Chg.set (w : World) (p : Addr) (u : Value) : Chg w (w.setCell p u) (fun k => k = p.block) :=
  ⟨rfl, rfl, rfl, by simp [World.setCell], fun k _ hs => Below.heap_setCell w p u k hs⟩
theorem Chg.cell (h : Chg w w' S) {p : Addr} {v : Value} (hp : ¬ S p.block) (hc : w.cell? p = some v) : w'.cell? p = some v :=
  (World.cell?_of_block (h.block _ (World.block_lt_of_cell? w _ hc) hp)).trans hc
theorem Chg.holds (h : Chg w w' S) {g : Nat} {t : TypeId} {cs : Array Value} (hp : ¬ S g) (hh : Holds w g t cs) : Holds w' g t cs := (h.block g hh.lt hp).trans hh
theorem Chg.owns (h : Chg w w' S) {base : Nat} {e : TypeId} {sz : Nat} {v : Value} {n : Nat} {xs : List Value} (ho : w.ownsRow base e sz v n xs) (hp : ∀ k, v.ownBlock = some k → ¬ S k) : w'.ownsRow base e sz v n xs := by
  refine ⟨ho.1, ?_⟩
  rcases ho.2 with hn | ⟨g, cap, cur, hv, hg, hh, r⟩
  · exact .inl hn
  · exact .inr ⟨g, cap, cur, hv, hg, (h.block g (Array.getElem?_eq_some_iff.1 hh).1 (hp g (by rw [hv]; rfl))).trans hh, r⟩
end
theorem cell_off {w : World} {b i j : Nat} {v : Value} (h : i ≠ j) (u : Value) (hc : w.cell? ⟨b, j, none⟩ = some v) : (w.setCell ⟨b, i, none⟩ u).cell? ⟨b, j, none⟩ = some v := by
  unfold World.cell? World.setCell at *
  simp only [Array.getElem?_modify, if_true] at *
  cases hw : w.heap[b]? with
  | none => rw [hw] at hc; simp at hc
  | some o =>
    rw [hw] at hc
    cases o <;> simp_all
theorem cell_far {w : World} {g b i j : Nat} {v : Value} (h : g ≠ b) (u : Value) (hc : w.cell? ⟨b, j, none⟩ = some v) : (w.setCell ⟨g, i, none⟩ u).cell? ⟨b, j, none⟩ = some v :=
  (World.cell?_of_block (a := ⟨b, j, none⟩) (Below.heap_setCell w ⟨g, i, none⟩ u b (fun e => h e.symm))).trans hc
/-- a row of which the first j elements are left -/
theorem own_take {w : World} {base sz n c j : Nat} {e : TypeId} {A : Option Addr} {xs : List Value} (h : w.ownsRow base e sz (.slice A n c) n xs) (hj : j ≤ n) : ∃ v', v' = .slice A j c ∧ w.ownsRow base e sz v' j (xs.take (j * sz)) := by
  refine ⟨_, rfl, ?_, ?_⟩
  · rw [List.length_take, h.1]
    have : j * sz ≤ n * sz := Nat.mul_le_mul_right _ hj
    omega
  · rcases h.2 with ⟨hv, h0⟩ | ⟨g, cap, cur, hv, hg, hh, hc, hm, hs, ht⟩
    · injection hv with h1 h2 h3
      subst h1; subst h2; subst h3
      obtain rfl : j = 0 := by omega
      exact .inl ⟨rfl, by simp⟩
    · injection hv with h1 h2 h3
      subst h1; subst h3
      refine .inr ⟨g, _, cur, rfl, hg, hh, by omega, hm, hs, ?_⟩
      rw [← ht, List.take_take]
      congr 1
      have : j * sz ≤ n * sz := Nat.mul_le_mul_right _ hj
      have h1 := h.1
      have h2 : xs.length ≤ cur.toList.length := by rw [← ht, List.length_take]; omega
      omega
/-- what a span's cells hold -/
def spCells (x : Sp) (kv : Value) : List Value := [.int .u8 (x.kind : Int), strV x.text, strV x.sub, strV x.see, kv]
/-- the slice v reads as these spans, in blocks of F -/
inductive Forest (w : World) (F : Nat → Prop) : Value → List Sp → Prop
  | mk (A : Option Addr) (c : Nat) (l : List Sp) (kvs : List Value) (hlen : kvs.length = l.length) (hc : l.length ≤ c)
      (hA : l ≠ [] → ∃ b off, A = some ⟨b, off, none⟩ ∧ F b ∧ ∀ (j : Nat) x kv, l[j]? = some x → kvs[j]? = some kv → ∀ (i : Nat) u, (spCells x kv)[i]? = some u → w.cell? ⟨b, off + j * 5 + i, none⟩ = some u)
      (hk : ∀ (j : Nat) x kv, l[j]? = some x → kvs[j]? = some kv → Forest w F kv x.kids) : Forest w F (.slice A l.length c) l
section
variable {w w' : World} {F G : Nat → Prop} {v : Value} {l : List Sp}
theorem Forest.nil (w : World) (F : Nat → Prop) : Forest w F (.slice none 0 0) [] :=
  .mk none 0 [] [] rfl (Nat.le_refl _) (fun h => absurd rfl h) (fun _ _ _ h => by simp at h)
theorem Forest.keep (h : Forest w F v l) (hk : ∀ b, F b → G b) (hc : ∀ (p : Addr) u, F p.block → w.cell? p = some u → w'.cell? p = some u) : Forest w' G v l := by
  induction h with
  | mk A c l kvs hlen hcap hA _ ih =>
    refine .mk A c l kvs hlen hcap (fun hn => ?_) (fun j x kv h1 h2 => ih j x kv h1 h2)
    obtain ⟨b, off, h1, h2, h3⟩ := hA hn
    exact ⟨b, off, h1, hk b h2, fun j x kv e1 e2 i u e3 => hc ⟨b, off + j * 5 + i, none⟩ u h2 (h3 j x kv e1 e2 i u e3)⟩
theorem Forest.chg {S : Nat → Prop} (h : Forest w F v l) (hc : Chg w w' S) (hk : ∀ b, F b → G b) (hS : ∀ b, F b → ¬ S b) : Forest w' G v l :=
  h.keep hk fun _ _ hF hu => hc.cell (hS _ hF) hu
theorem Forest.under {B : Nat} (h : Forest w F v l) (hb : Below B w w') (hF : ∀ b, F b → b < B) : Forest w' F v l :=
  h.keep (fun _ h => h) fun p u hp hu => (hb.cell (hF _ hp)).trans hu
/-- as the walk wants it -/
theorem Forest.form (h : Forest w F v l) : ∃ A c, v = .slice A l.length c ∧ l.length ≤ c ∧ ∀ (j : Nat) x, l[j]? = some x → ∃ b off kv, A = some ⟨b, off, none⟩ ∧ F b ∧ Forest w F kv x.kids ∧
    w.cell? ⟨b, off + j * 5, none⟩ = some (.int .u8 (x.kind : Int)) ∧ w.cell? ⟨b, off + j * 5 + 1, none⟩ = some (strV x.text) ∧ w.cell? ⟨b, off + j * 5 + 2, none⟩ = some (strV x.sub) ∧ w.cell? ⟨b, off + j * 5 + 3, none⟩ = some (strV x.see) ∧ w.cell? ⟨b, off + j * 5 + 4, none⟩ = some kv := by
  cases h with
  | mk A c l kvs hlen hcap hA hk =>
    refine ⟨A, c, rfl, hcap, fun j x hx => ?_⟩
    have hj : j < l.length := (List.getElem?_eq_some_iff.1 hx).1
    obtain ⟨kv, hkv⟩ : ∃ kv, kvs[j]? = some kv := ⟨_, List.getElem?_eq_getElem (by omega)⟩
    obtain ⟨b, off, h1, h2, h3⟩ := hA (by rintro rfl; simp at hj)
    have h4 := h3 j x kv hx hkv
    exact ⟨b, off, kv, h1, h2, hk j x kv hx hkv, h4 0 _ rfl, h4 1 _ rfl, h4 2 _ rfl, h4 3 _ rfl, h4 4 _ rfl⟩
end
/-- the cells of a row of spans -/
def rowCells : List Sp → List Value → List Value
  | x :: l, kv :: kvs => spCells x kv ++ rowCells l kvs
  | _, _ => []
theorem rowCells_length : ∀ {l : List Sp} {kvs : List Value}, kvs.length = l.length → (rowCells l kvs).length = l.length * 5
  | [], [], _ => rfl
  | [], _ :: _, h => by simp at h
  | _ :: _, [], h => by simp at h
  | x :: l, kv :: kvs, h => by
    rw [rowCells, List.length_append, rowCells_length (l := l) (kvs := kvs) (by simpa using h)]
    simp [spCells]; omega
theorem rowCells_snoc : ∀ {l : List Sp} {kvs : List Value} (x : Sp) (kv : Value), kvs.length = l.length → rowCells (l ++ [x]) (kvs ++ [kv]) = rowCells l kvs ++ spCells x kv
  | [], [], x, kv, _ => by simp [rowCells]
  | [], _ :: _, _, _, h => by simp at h
  | _ :: _, [], _, _, h => by simp at h
  | y :: l, kw :: kvs, x, kv, h => by
    rw [List.cons_append, List.cons_append, rowCells, rowCells_snoc (l := l) (kvs := kvs) x kv (by simpa using h), rowCells, List.append_assoc]
theorem rowCells_get : ∀ {l : List Sp} {kvs : List Value} {j : Nat} {x : Sp} {kv : Value} {i : Nat} {u : Value}, l[j]? = some x → kvs[j]? = some kv → (spCells x kv)[i]? = some u → (rowCells l kvs)[j * 5 + i]? = some u
  | [], _, _, _, _, _, _, h, _, _ => by simp at h
  | _ :: _, [], _, _, _, _, _, _, h, _ => by simp at h
  | y :: l, kw :: kvs, 0, x, kv, i, u, h1, h2, h3 => by
    simp at h1 h2
    subst h1; subst h2
    have hi : i < (spCells y kw).length := (List.getElem?_eq_some_iff.1 h3).1
    rw [rowCells, List.getElem?_append_left (by simpa using hi)]
    simpa using h3
  | y :: l, kw :: kvs, j + 1, x, kv, i, u, h1, h2, h3 => by
    have ih := rowCells_get (l := l) (kvs := kvs) (j := j) (i := i) (by simpa using h1) (by simpa using h2) h3
    rw [rowCells, List.getElem?_append_right (by simp [spCells]; omega), ← ih]
    congr 1
    simp [spCells]; omega
theorem rowCells_one : ∀ {l : List Sp} {kvs : List Value} {u : Value}, (∀ kv ∈ kvs, kv.oneCell' = true) → u ∈ rowCells l kvs → u.oneCell' = true
  | [], _, _, _, h => by simp [rowCells] at h
  | _ :: _, [], _, _, h => by simp [rowCells] at h
  | y :: l, kw :: kvs, u, hk, h => by
    rw [rowCells, List.mem_append] at h
    rcases h with h | h
    · simp only [spCells, List.mem_cons, List.not_mem_nil, or_false] at h
      rcases h with rfl | rfl | rfl | rfl | rfl
      · rfl
      · rfl
      · rfl
      · rfl
      · exact hk _ (List.mem_cons_self ..)
    · exact rowCells_one (fun kv hkv => hk kv (List.mem_cons_of_mem _ hkv)) h
/-- the slice v is a row of its own of these spans, what stands within them in blocks of F -/
def SpanRow (w : World) (B : Nat) (t : TypeId) (F : Nat → Prop) (v : Value) (l : List Sp) : Prop :=
  ∃ kvs, kvs.length = l.length ∧ w.ownsRow B t 5 v l.length (rowCells l kvs) ∧ ∀ (j : Nat) x kv, l[j]? = some x → kvs[j]? = some kv → Forest w F kv x.kids
section
variable {w w' : World} {F G : Nat → Prop} {v : Value} {l : List Sp} {B : Nat} {t : TypeId}
theorem SpanRow.nil (w : World) (B : Nat) (t : TypeId) (F : Nat → Prop) : SpanRow w B t F (.slice none 0 0) [] := ⟨[], rfl, World.ownsRow_nil _ _ _ _, fun _ _ _ h => by simp at h⟩
theorem SpanRow.chg {S : Nat → Prop} (h : SpanRow w B t F v l) (hc : Chg w w' S) (hk : ∀ b, F b → G b) (hS : ∀ b, F b → ¬ S b) (hv : ∀ b, v.ownBlock = some b → ¬ S b) : SpanRow w' B t G v l := by
  obtain ⟨kvs, h1, h2, h3⟩ := h
  exact ⟨kvs, h1, hc.owns h2 hv, fun j x kv e1 e2 => (h3 j x kv e1 e2).chg hc hk hS⟩
theorem SpanRow.lt (h : SpanRow w B t F v l) : ∀ k, v.ownBlock = some k → B ≤ k ∧ k < w.heap.size := by
  obtain ⟨kvs, h1, h2, h3⟩ := h
  exact h2.lt
theorem SpanRow.form (h : SpanRow w B t F v l) : ∃ A c, v = .slice A l.length c ∧ l.length ≤ c := by
  obtain ⟨kvs, h1, h2, h3⟩ := h
  rcases h2.2 with ⟨hv, h0⟩ | ⟨g, cap, cur, hv, _, _, hc, _⟩
  · exact ⟨none, 0, by rw [hv, h0], by omega⟩
  · exact ⟨_, _, hv, hc⟩
/-- a row of its own reads as spans -/
theorem SpanRow.forest (h : SpanRow w B t F v l) (hk : ∀ b, F b → G b) (hv : ∀ b, v.ownBlock = some b → G b) : Forest w G v l := by
  obtain ⟨kvs, h1, h2, h3⟩ := h
  obtain ⟨A, c, rfl, hc⟩ := SpanRow.form ⟨kvs, h1, h2, h3⟩
  refine .mk A c l kvs h1 hc (fun hn => ?_) (fun j x kv e1 e2 => (h3 j x kv e1 e2).keep hk fun _ _ _ h => h)
  have hl : 0 < l.length := List.length_pos_iff.2 hn
  rcases h2.2 with ⟨hv, h0⟩ | ⟨g, cap, cur, hv2, hb, hh, _⟩
  · omega
  · injection hv2 with e1 e2 e3
    subst e1; subst e3
    refine ⟨g, 0, rfl, hv g rfl, fun j x kv e1 e2 i u e3 => ?_⟩
    have := h2.cells (g := g) rfl (j * 5 + i) u (rowCells_get e1 e2 e3)
    rw [addr_add] at this
    rw [← this]; congr 2; omega
end
end Go.Bd
