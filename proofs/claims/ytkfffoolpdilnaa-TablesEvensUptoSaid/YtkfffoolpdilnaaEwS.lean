/-
  Walks: spans in memory of their own, with a mark behind each list (Twin..); whether they are still such (Left..).
-/
import Derived.Test.YtkfffoolpdilnaaTwn
import Derived.Test.YtkfffoolpdilnaaEvB
namespace Go.Proofs.Ytkfffoolpdilnaa
open Go.RowKit Go.Bd
theorem make_room (n : Nat) (w : World) (hn : n ≤ 1000000000) : (Instr.makeSlice 32 (.int .i64 0) (.int .i64 n)).run Try.prog w = .ok (.slice (some ⟨w.heap.size, 0, none⟩) 0 n) (w.alloc (.cells (madeCells #[.int .u8 0, .string ⟨#[]⟩, .string ⟨#[]⟩, .string ⟨#[]⟩, .slice none 0 0] (n * 5)) 43)) := by
  obtain ⟨i0, hi, hz0, hz1, hz2⟩ := info_parts span_info
  have h := run_make (P := Try.prog) w 32 43 i0 _ Try.underlying32 hi hz0 .i64 .i64 0 n (by omega) (by omega) (by rw [hz2]; omega) (by omega)
  rw [hz1] at h
  simpa [Value.cells] using h
theorem chg_set {w w' : World} {S : Nat → Prop} (h : Chg w w' S) (p : Addr) (u : Value) (hp : S p.block) : Chg w (w'.setCell p u) S := h.trans (Chg.set w' p u) (fun k _ e => by subst e; exact hp)
theorem holds_five {w : World} {g : Nat} {t : TypeId} {z0 z1 z2 z3 z4 a b c d e : Value} (h : Holds w g t #[z0, z1, z2, z3, z4]) : Holds (((((w.setCell ⟨g, 0, none⟩ a).setCell ⟨g, 1, none⟩ b).setCell ⟨g, 2, none⟩ c).setCell ⟨g, 3, none⟩ d).setCell ⟨g, 4, none⟩ e) g t #[a, b, c, d, e] :=
  ((((h.set 0 _).set 1 _).set 2 _).set 3 _).set 4 _
theorem name_world' {α : Sort _} {K : α → World → Prop} {a : α} {W : World} (h : ∀ W', W' = W → K a W') : K a W := h W rfl
/-- what is known of spans that are copied so, so many at most -/
def TwinOk (N : Nat) : Prop := ∀ (l : List Sp), manyL l ≤ N → manyL l ≤ 4000000 → ∀ (v : Value) (w : World) (B : Nat), Forest w (· < B) v l → B ≤ w.heap.size →
    Calls Try.prog 19 #[v] w fun e w' => ∃ v', e = .returned v' ∧ Marked w' (fun b => w.heap.size ≤ b ∧ b < w'.heap.size) v' l ∧ Below w.heap.size w w'
set_option maxRecDepth 100000 in
set_option maxHeartbeats 4000000 in
theorem twin1_any {N : Nat} (ih : TwinOk N) (x : Sp) (hN : manyL x.kids ≤ N) (hm : manyL x.kids ≤ 4000000) (v : Value) (w : World) (B : Nat) (hF : Forest w (· < B) v x.kids) (hB : B ≤ w.heap.size) :
    Calls Try.prog 22 #[.agg #[.int .u8 (x.kind : Int), .string ⟨x.text.toArray⟩, .string ⟨x.sub.toArray⟩, .string ⟨x.see.toArray⟩, v]] w fun e w' =>
      ∃ v', e = .returned (.agg #[.int .u8 (x.kind : Int), .string ⟨x.text.toArray⟩, .string ⟨x.sub.toArray⟩, .string ⟨x.see.toArray⟩, v']) ∧ Marked w' (fun b => w.heap.size ≤ b ∧ b < w'.heap.size) v' x.kids ∧ Below w.heap.size w w' := by
  obtain ⟨A, c, rfl, hc⟩ := hF.len
  obtain ⟨w0, hw0⟩ : ∃ w0, (w.alloc (.cells #[.int .u8 (x.kind : Int), .string ⟨x.text.toArray⟩, .string ⟨x.sub.toArray⟩, .string ⟨x.see.toArray⟩, .slice A x.kids.length c] 43)).alloc (.cells #[.int .u8 0, .string ⟨#[]⟩, .string ⟨#[]⟩, .string ⟨#[]⟩, .slice none 0 0] 43) = w0 := ⟨_, rfl⟩
  have hb0 : Below w.heap.size w w0 := by rw [← hw0]; exact ((Below.refl _ _).alloc (Nat.le_refl _) _).alloc (by simp) _
  have hX : Holds w0 w.heap.size 43 #[.int .u8 (x.kind : Int), .string ⟨x.text.toArray⟩, .string ⟨x.sub.toArray⟩, .string ⟨x.see.toArray⟩, .slice A x.kids.length c] := by rw [← hw0]; exact (Holds.new w _ _).alloc _
  have hR : Holds w0 (w.heap.size + 1) 43 #[.int .u8 0, .string ⟨#[]⟩, .string ⟨#[]⟩, .string ⟨#[]⟩, .slice none 0 0] := by
    rw [← hw0]
    have h := Holds.new (w.alloc (.cells #[.int .u8 (x.kind : Int), .string ⟨x.text.toArray⟩, .string ⟨x.sub.toArray⟩, .string ⟨x.see.toArray⟩, .slice A x.kids.length c] 43)) 43 #[.int .u8 0, .string ⟨#[]⟩, .string ⟨#[]⟩, .string ⟨#[]⟩, .slice none 0 0]
    rw [World.size_alloc] at h
    exact h
  have hs0 : w0.heap.size = w.heap.size + 2 := by rw [← hw0]; simp
  have HFO := Lib.hid hF
  have HB0 := Lib.hid hb0
  clear hF
  go_enter Try.func22, Try.ntmps22
  go_wp2

  clear hw0 hb0
  refine wp_region_held_drew (S := (fun w' => w'.cell? ⟨w.heap.size, 0, none⟩ = some (.int .u8 (x.kind : Int)) ∧ w'.cell? ⟨w.heap.size, 1, none⟩ = some (.string ⟨x.text.toArray⟩) ∧ w'.cell? ⟨w.heap.size, 2, none⟩ = some (.string ⟨x.sub.toArray⟩) ∧ w'.cell? ⟨w.heap.size, 3, none⟩ = some (.string ⟨x.see.toArray⟩) ∧ w'.cell? ⟨w.heap.size, 4, none⟩ = some (.slice A x.kids.length c))) (by kernel_rfl) ?_ (fun hHeld0 => ?_)
  · (try dsimp only)
    refine cells5 (t := 43) ?_
    repeat (first | with_reducible exact hX | with_reducible refine Holds.far ?_ hrx _ | with_reducible refine Holds.alloc ?_ _ | with_reducible refine Holds.drew ?_)
  refine wpAnyH_take (i := 0) (v := ?_) rfl (by kernel_rfl) (by kernel_rfl) (by kernel_rfl) (fun _ _ _ h => h) (Or.inl ⟨by kernel_rfl, ?_⟩) (by assumption) ?_
  rotate_left
  · (intro w hSw; (try dsimp only at hSw); go_simp; (first | done | with_reducible rfl))
  (try simp only [Act.put, List.setIfInBounds_toArray, List.set_cons_zero, List.set_cons_succ])
  refine wpAnyH_take (i := 1) (v := ?_) rfl (by kernel_rfl) (by kernel_rfl) (by kernel_rfl) (fun _ _ _ h => h) (Or.inl ⟨by kernel_rfl, ?_⟩) (by assumption) ?_
  rotate_left
  · (intro w hSw; (try dsimp only at hSw); go_simp; (first | done | with_reducible rfl))
  (try simp only [Act.put, List.setIfInBounds_toArray, List.set_cons_zero, List.set_cons_succ])
  refine wpAnyH_take (i := 2) (v := ?_) rfl (by kernel_rfl) (by kernel_rfl) (by kernel_rfl) (fun _ _ _ h => h) (Or.inl ⟨by kernel_rfl, ?_⟩) (by assumption) ?_
  rotate_left
  · (intro w hSw; (try dsimp only at hSw); go_simp; (first | done | with_reducible rfl))
  (try simp only [Act.put, List.setIfInBounds_toArray, List.set_cons_zero, List.set_cons_succ])
  refine wpAnyH_take (i := 3) (v := ?_) rfl (by kernel_rfl) (by kernel_rfl) (by kernel_rfl) (fun _ _ _ h => h) (Or.inl ⟨by kernel_rfl, ?_⟩) (by assumption) ?_
  rotate_left
  · (intro w hSw; (try dsimp only at hSw); go_simp; (first | done | with_reducible rfl))
  (try simp only [Act.put, List.setIfInBounds_toArray, List.set_cons_zero, List.set_cons_succ])
  refine wpAnyH_take (i := 4) (v := ?_) rfl (by kernel_rfl) (by kernel_rfl) (by kernel_rfl) (fun _ _ _ h => h) (Or.inl ⟨by kernel_rfl, ?_⟩) (by assumption) ?_
  rotate_left
  · (intro w hSw; (try dsimp only at hSw); go_simp; (first | done | with_reducible rfl))
  (try simp only [Act.put, List.setIfInBounds_toArray, List.set_cons_zero, List.set_cons_succ])
  refine wpAnyH_take (i := 5) (v := ?_) rfl (by kernel_rfl) (by kernel_rfl) (by kernel_rfl) (fun _ _ _ h => h) (Or.inl ⟨by kernel_rfl, ?_⟩) (by assumption) ?_
  rotate_left
  · (intro w hSw; (try dsimp only at hSw); go_simp; (first | done | with_reducible rfl))
  (try simp only [Act.put, List.setIfInBounds_toArray, List.set_cons_zero, List.set_cons_succ])
  refine wpAnyH_take (i := 6) (v := ?_) rfl (by kernel_rfl) (by kernel_rfl) (by kernel_rfl) (fun _ _ _ h => h) (Or.inl ⟨by kernel_rfl, ?_⟩) (by assumption) ?_
  rotate_left
  · (intro w hSw; (try dsimp only at hSw); go_simp; (first | done | with_reducible rfl))
  (try simp only [Act.put, List.setIfInBounds_toArray, List.set_cons_zero, List.set_cons_succ])
  refine wpAnyH_take (i := 7) (v := ?_) rfl (by kernel_rfl) (by kernel_rfl) (by kernel_rfl) (fun _ _ _ h => h) (Or.inl ⟨by kernel_rfl, ?_⟩) (by assumption) ?_
  rotate_left
  · (intro w hSw; (try dsimp only at hSw); go_simp; (first | done | with_reducible rfl))
  (try simp only [Act.put, List.setIfInBounds_toArray, List.set_cons_zero, List.set_cons_succ])
  refine wpAnyH_take (i := 8) (v := ?_) rfl (by kernel_rfl) (by kernel_rfl) (by kernel_rfl) (fun _ _ _ h => h) (Or.inl ⟨by kernel_rfl, ?_⟩) (by assumption) ?_
  rotate_left
  · (intro w hSw; (try dsimp only at hSw); go_simp; (first | done | with_reducible rfl))
  (try simp only [Act.put, List.setIfInBounds_toArray, List.set_cons_zero, List.set_cons_succ])
  refine wpAnyH_take (i := 9) (v := ?_) rfl (by kernel_rfl) (by kernel_rfl) (by kernel_rfl) (fun _ _ _ h => h) (Or.inl ⟨by kernel_rfl, ?_⟩) (by assumption) ?_
  rotate_left
  · (intro w hSw; (try dsimp only at hSw); go_simp; (first | done | with_reducible rfl))
  (try simp only [Act.put, List.setIfInBounds_toArray, List.set_cons_zero, List.set_cons_succ])
  refine wpAnyH_ready (rs := [10]) (by kernel_rfl) (by simp) ?_
  refine AllReadyH.cons rfl (fun K hK => ?_) AllReadyH.nil
  go_simp
  have hc0 : Forest w0.drew (· < B) (.slice A x.kids.length c) x.kids := (HFO.out.under (HB0.out.mono hB) (fun _ h => h)).keep (fun _ h => h) (fun _ _ _ h => h)
  refine (ih x.kids hN hm _ _ B hc0 (by show B ≤ w0.heap.size; omega)).mono ?_
  rintro e w2 ⟨v', rfl, ht2, hb2⟩
  have hsz2 := hb2.size
  have hX2 := holdsUnder (Holds.drew hX) hb2
  have hR2 := holdsUnder (Holds.drew hR) hb2
  have HB2 := Lib.hid ((HB0.out.drew).trans (hb2.mono (by show w.heap.size ≤ w0.heap.size; omega)))
  have hrx : w.heap.size ≠ w.heap.size + 1 := by omega
  clear hX hR hc0
  have hX := hX2
  have hR := hR2
  clear hX2 hR2
  obtain ⟨tg, tc, rfl, _⟩ := ht2.form
  have HT2 := Lib.hid ht2
  clear ht2 hb2
  go_wp2_with fail
  refine hK.out _ _ ?_ (fun hHeld1 => ?_)
  · (try dsimp only)
    refine cells5 (t := 43) ?_
    repeat (first | with_reducible exact hX | with_reducible refine Holds.far ?_ hrx _ | with_reducible refine Holds.alloc ?_ _ | with_reducible refine Holds.drew ?_)
  clear hK K hHeld0
  (try simp only [Act.put, List.setIfInBounds_toArray, List.set_cons_zero, List.set_cons_succ])
  refine wpAnyH_take (i := 11) (v := ?_) rfl (by kernel_rfl) (by kernel_rfl) (by kernel_rfl) (fun _ _ _ h => h) (Or.inl ⟨by kernel_rfl, ?_⟩) (by assumption) ?_
  rotate_left
  · (intro w hSw; (try dsimp only at hSw); go_simp; (first | done | with_reducible rfl))
  (try simp only [Act.put, List.setIfInBounds_toArray, List.set_cons_zero, List.set_cons_succ])
  refine wpAnyH_ready (rs := [12]) (by kernel_rfl) (by simp) ?_
  refine AllReadyH.cons rfl (fun K hK => ?_) AllReadyH.nil
  obtain ⟨a0, a1, a2, a3, a4⟩ := cells5 hR
  have f0 := hR.free 0
  have f1 := hR.free 1
  have f2 := hR.free 2
  have f3 := hR.free 3
  have f4 := hR.free 4
  go_simp
  refine name_world' ?_
  intro w9 hw9
  have hch : Chg w2 w9 (fun k => k = w.heap.size + 1) := by
    rw [hw9]
    repeat (first | with_reducible exact Chg.refl _ _ | with_reducible refine Chg.drew ?_ | with_reducible refine chg_set ?_ _ _ ?_ | rfl)
  have hR9 : Holds w9 (w.heap.size + 1) 43 #[.int .u8 (x.kind : Int), .string ⟨x.text.toArray⟩, .string ⟨x.sub.toArray⟩, .string ⟨x.see.toArray⟩, .slice (some ⟨tg, 0, none⟩) x.kids.length tc] := by
    rw [hw9]
    first | with_reducible exact holds_five hR | with_reducible exact (holds_five hR).drew
  have hX9 := hch.holds (g := w.heap.size) (by omega) hX
  have hws : w0.heap.size ≤ w2.heap.size := hsz2
  have HT9 := Lib.hid (HT2.out.chg (G := fun b => w.heap.size ≤ b ∧ b < w9.heap.size) hch (fun b h => ⟨by have h1 : w0.heap.size ≤ b := h.1; omega, Nat.lt_of_lt_of_le h.2 hch.size⟩) (fun b h e => by have h1 : w0.heap.size ≤ b := h.1; omega))
  have HB9 := Lib.hid (HB2.out.trans (hch.toBelow (by omega) (fun k e => by omega)))
  clear a0 a1 a2 a3 a4 f0 f1 f2 f3 f4 hw9 hch hX hR HT2 HB2
  have hX := hX9
  have hR := hR9
  clear hX9 hR9
  refine hK.out _ _ ?_ (fun hHeld2 => ?_)
  · (try dsimp only)
    refine cells5 (t := 43) ?_
    repeat (first | with_reducible exact hX | with_reducible refine Holds.far ?_ hrx _ | with_reducible refine Holds.alloc ?_ _ | with_reducible refine Holds.drew ?_)
  clear hK K hHeld1
  (try simp only [Act.put, List.setIfInBounds_toArray, List.set_cons_zero, List.set_cons_succ])
  refine wpAnyH_done (by kernel_rfl) ?_ _
  go_wp2
  (try simp only [Exit.inBlock, Exit.then])
  refine bodyPost_ret (results_row rfl _ _ (w.heap.size + 1) _ _ _ _ rfl hR Try.underlying43 rfl span_size) rfl ?_
  exact ⟨_, rfl, HT9.out, HB9.out⟩
/-- a copy so far -/
structure TwSt (w wr : World) (g cap k : Nat) (kvs : List Value) (l : List Sp) : Prop where
  hl : kvs.length = k
  ho : wr.ownsRow w.heap.size 43 5 (.slice (some ⟨g, 0, none⟩) k cap) k (rowCells (l.take k) kvs)
  hk : ∀ (j : Nat) x kv, (l.take k)[j]? = some x → kvs[j]? = some kv → Marked wr (fun b => w.heap.size ≤ b ∧ b < wr.heap.size ∧ b ≠ g) kv x.kids
  hg : w.heap.size ≤ g ∧ g < wr.heap.size
  hb : Below w.heap.size w wr
theorem own_at {w : World} {B : Nat} {t : TypeId} {sz g k cap : Nat} {xs : List Value} (h : w.ownsRow B t sz (.slice (some ⟨g, 0, none⟩) k cap) k xs) : k ≤ cap := by
  rcases h.2 with ⟨h, _⟩ | ⟨g', cap', cur, hv, _, _, hc, _⟩
  · cases h
  · injection hv with e1 e2 e3; omega
theorem twSt_next {w wr w2 w3 : World} {g cap k g1 cap1 : Nat} {kvs : List Value} {l : List Sp} {x : Sp} {kv : Value} {o : Obj} (h : TwSt w wr g cap k kvs l) (hx : l[k]? = some x) (hb2 : Below wr.heap.size wr w2)
    (ht2 : Marked w2 (fun b => wr.heap.size ≤ b ∧ b < w2.heap.size) kv x.kids) (hown3 : w3.ownsRow w.heap.size 43 5 (.slice (some ⟨g1, 0, none⟩) (k + 1) cap1) (k + 1) (rowCells (l.take k) kvs ++ spCells x kv))
    (hgrow : (w2.alloc o).grownBy w3 (some g)) (hat : (some g : Option Nat) = some g1 ∨ g1 = w2.heap.size + 1) (hlt3 : g1 < w3.heap.size) : TwSt w w3 g1 cap1 (k + 1) (kvs ++ [kv]) l := by
  have hkl : k < l.length := (List.getElem?_eq_some_iff.1 hx).1
  have htl : (l.take k).length = k := by rw [List.length_take]; omega
  have etk : l.take (k + 1) = l.take k ++ [x] := by rw [List.take_add_one, hx]; rfl
  have hc : Chg w2 w3 (fun b => some b = some g) := ((Chg.refl w2 (fun b => some b = some g)).alloc o).trans (Chg.grown hgrow) (fun _ _ h => h)
  have hs2 := hb2.size
  have hs3 := hc.size
  obtain ⟨hg1, hg2⟩ := h.hg
  have hgg : g1 = g ∨ g1 = w2.heap.size + 1 := hat.imp (fun e => (Option.some.inj e).symm) id
  have hbb := h.hb.size
  refine ⟨by rw [List.length_append, h.hl]; rfl, by rw [etk, rowCells_snoc x kv (by rw [h.hl, htl])]; exact hown3, fun j y ku e1 e2 => ?_, ⟨by omega, hlt3⟩, ?_⟩
  · rw [etk] at e1
    by_cases hj : j < k
    · rw [List.getElem?_append_left (by omega)] at e1
      rw [List.getElem?_append_left (by rw [h.hl]; exact hj)] at e2
      refine ((h.hk j y ku e1 e2).under hb2 (fun b hb => hb.2.1)).chg hc (fun b hb => ⟨hb.1, by omega, by omega⟩) (fun b hb e => hb.2.2 (Option.some.inj e))
    · have hjk : j = k := by
        have := (List.getElem?_eq_some_iff.1 e1).1
        rw [List.length_append, htl] at this
        simp at this; omega
      subst hjk
      rw [List.getElem?_append_right (by omega), htl, Nat.sub_self] at e1
      rw [List.getElem?_append_right (by rw [h.hl]; exact Nat.le_refl _), h.hl, Nat.sub_self] at e2
      simp only [List.getElem?_cons_zero, Option.some.injEq] at e1 e2
      subst e1 e2
      exact ht2.chg hc (fun b hb => ⟨by omega, by omega, by omega⟩) (fun b hb e => by have := Option.some.inj e; omega)
  · exact (h.hb.trans (hb2.mono hbb)).trans (hc.toBelow (by omega) (fun b e => by have := Option.some.inj e; omega))
theorem twSt_last {w wr w3 : World} {g cap k g1 cap1 : Nat} {kvs : List Value} {l : List Sp} {o : Obj} (h : TwSt w wr g cap k kvs l) (hkl : l.length = k)
    (hown3 : w3.ownsRow w.heap.size 43 5 (.slice (some ⟨g1, 0, none⟩) (k + 1) cap1) (k + 1) (rowCells (l.take k) kvs ++ markCells))
    (hgrow : (wr.alloc o).grownBy w3 (some g)) (hat : (some g : Option Nat) = some g1 ∨ g1 = wr.heap.size + 1) (hlt3 : g1 < w3.heap.size) :
    Marked w3 (fun b => w.heap.size ≤ b ∧ b < w3.heap.size) (.slice (some ⟨g1, 0, none⟩) l.length cap1) l ∧ Below w.heap.size w w3 := by
  have hc : Chg wr w3 (fun b => some b = some g) := ((Chg.refl wr (fun b => some b = some g)).alloc o).trans (Chg.grown hgrow) (fun _ _ h => h)
  have hs3 := hc.size
  obtain ⟨hg1, hg2⟩ := h.hg
  have hgg : g1 = g ∨ g1 = wr.heap.size + 1 := hat.imp (fun e => (Option.some.inj e).symm) id
  have hbb := h.hb.size
  have htk : l.take k = l := List.take_of_length_le (by omega)
  have hk := h.hk
  rw [htk] at hown3 hk
  rw [← hkl] at hown3
  refine ⟨twin_of_row (by rw [h.hl, hkl]) hown3 ⟨by omega, hlt3⟩ (fun j x kv e1 e2 => ?_), h.hb.trans (hc.toBelow (by omega) (fun b e => by have := Option.some.inj e; omega))⟩
  exact (hk j x kv e1 e2).chg hc (fun b hb => ⟨hb.1, by omega⟩) (fun b hb e => hb.2.2 (Option.some.inj e))
set_option maxRecDepth 100000 in
set_option maxHeartbeats 4000000 in
theorem twin_step {N : Nat} (ih : ∀ M, M < N → TwinOk M) : TwinOk N := by
  intro l hN hm v w B hF hB
  obtain ⟨A, c, rfl, hc⟩ := hF.len
  have hlm := many_len l
  have HF := Lib.hid hF
  have HIH := Lib.hid ih
  clear hF ih
  obtain ⟨n, hn⟩ : ∃ n, l.length = n := ⟨_, rfl⟩
  have HN := Lib.hid hn
  simp only [hn] at hc hlm HF ⊢
  clear hn
  have mf := make_room (n + 1) w (by omega)
  have hz := madeCells_size #[.int .u8 0, .string ⟨#[]⟩, .string ⟨#[]⟩, .string ⟨#[]⟩, .slice none 0 0] ((n + 1) * 5)
  generalize madeCells #[.int .u8 0, .string ⟨#[]⟩, .string ⟨#[]⟩, .string ⟨#[]⟩, .slice none 0 0] ((n + 1) * 5) = zc at mf hz
  have HZ := Lib.hid hz
  rw [show (((n + 1 : Nat) : Int)) = (n : Int) + 1 by push_cast; rfl] at mf
  clear hz
  obtain ⟨i0, hi0, hz0, hz1, hz2⟩ := info_parts span_info
  go_enter Try.func19, Try.ntmps19
  go_wp2
  clear mf
  go_loopg [3, 4] n (fun q vt vi wr => ∃ k g cap : Nat, k + q = n ∧ vi = .int .i64 (k : Int) ∧ vt = .slice (some ⟨g, 0, none⟩) k cap ∧ Hid (∃ kvs, TwSt w wr g cap k kvs l))
  case atStart =>
    refine ⟨0, w.heap.size, n + 1, by omega, rfl, rfl, [], rfl, ⟨rfl, .inr ⟨w.heap.size, n + 1, zc, rfl, Nat.le_refl _, heap_alloc_new w _, Nat.zero_le _, by unfold maxLen; omega, HZ.out, rfl⟩⟩, fun j x kv h => by simp at h, ⟨Nat.le_refl _, by simp⟩, (Below.refl _ _).alloc (Nat.le_refl _) _⟩
  case round =>
    obtain ⟨k, g, cap, hk, rfl, rfl, HR⟩ := hrel
    obtain ⟨kvs, hst⟩ := HR.out
    have hkc := own_at hst.ho
    have hrb := hst.hb.size
    obtain ⟨hg1, hg2⟩ := hst.hg
    by_cases hlt : k < n
    · obtain ⟨x, hx⟩ : ∃ x, l[k]? = some x := ⟨_, List.getElem?_eq_getElem (by rw [HN.out]; exact hlt)⟩
      obtain ⟨b1, off, kA, kc, rfl, hb1, hkF, p0, p1, p2, p3, p4⟩ := HF.out.at hx
      have hbl := hst.hb.mono hB
      replace p0 := (hbl.cell (p := ⟨b1, off + k * 5, none⟩) hb1).trans p0
      replace p1 := (hbl.cell (p := ⟨b1, off + k * 5 + 1, none⟩) hb1).trans p1
      replace p2 := (hbl.cell (p := ⟨b1, off + k * 5 + 2, none⟩) hb1).trans p2
      replace p3 := (hbl.cell (p := ⟨b1, off + k * 5 + 3, none⟩) hb1).trans p3
      replace p4 := (hbl.cell (p := ⟨b1, off + k * 5 + 4, none⟩) hb1).trans p4
      have hgt := many_get hx
      have ci := twin1_any (HIH.out (manyL x.kids) (by omega)) x (Nat.le_refl _) (by omega) _ wr B (hkF.under hbl (fun _ h => h)) (by omega)
      have HST := Lib.hid hst
      have HX := Lib.hid hx
      clear hx hkF hbl hst HR
      go_wp2_with fail
      refine ci.mono ?_
      clear ci
      rintro e w2 ⟨v', rfl, ht2, hb2⟩
      have hs2 := hb2.size
      have hown2 := (Chg.below hb2 (fun _ => False)).owns HST.out.ho (fun _ _ h => h)
      have HT2 := Lib.hid ht2
      have HB2 := Lib.hid hb2
      obtain ⟨tg, tc, rfl, _⟩ := ht2.form
      clear ht2 hb2
      go_wp2_with (at_builtin; refine wpList_append_lies _ rfl _ _ 32 rfl w.heap.size 43 i0 _ 5 80 Try.underlying32 hi0 hz0 hz1 hz2 rfl (by omega) (.slice (some ⟨g, 0, none⟩) k cap) k (rowCells (l.take k) kvs) (by rfl) (hown2.alloc _) ⟨w2.heap.size, 0, none⟩ 1 1 [.int .u8 (x.kind : Int), .string ⟨x.text.toArray⟩, .string ⟨x.sub.toArray⟩, .string ⟨x.see.toArray⟩, .slice (some ⟨tg, 0, none⟩) x.kids.length tc] (by rfl) (by rfl) (World.news_of_block (cs := #[.int .u8 (x.kind : Int), .string ⟨x.text.toArray⟩, .string ⟨x.sub.toArray⟩, .string ⟨x.see.toArray⟩, .slice (some ⟨tg, 0, none⟩) x.kids.length tc]) (t := 43) (fr := (0, 0)) (heap_alloc_new w2 _)) (by simp [Value.oneCell']) (by omega) (by unfold maxLen; omega) (by omega) (by simp; omega) (w2.heap.size + 1) (by simp) ?_; intro g1 cap1 w3 hown3 hgrow hat hlt3)
      have HN3 := Lib.hid (twSt_next HST.out HX.out HB2.out HT2.out hown3 hgrow hat hlt3)
      clear hown3 hgrow hat hlt3 hown2
      go_roundg (gk - 1)
      case measure => omega
      case rel => exact ⟨k + 1, g1, cap1, by omega, by go_num, rfl, _, HN3.out⟩
    · obtain rfl : k = n := by omega
      have HST := Lib.hid hst
      have hown := hst.ho
      clear hst HR
      go_wp2_with (at_builtin; refine wpList_append_lies _ rfl _ _ 32 rfl w.heap.size 43 i0 _ 5 80 Try.underlying32 hi0 hz0 hz1 hz2 rfl (by omega) (.slice (some ⟨g, 0, none⟩) k cap) k (rowCells (l.take k) kvs) (by rfl) (hown.alloc _) ⟨wr.heap.size, 0, none⟩ 1 1 markCells (by rfl) (by rfl) (World.news_of_block (cs := #[.int .u8 0, .string ⟨#[115, 112, 97, 114, 101]⟩, .string ⟨#[]⟩, .string ⟨#[]⟩, .slice none 0 0]) (t := 43) (fr := (0, 0)) (heap_alloc_new wr _)) (by simp [markCells, strV, Value.oneCell']) (by omega) (by unfold maxLen; omega) (by omega) (by simp; omega) (wr.heap.size + 1) (by simp) ?_; intro g1 cap1 w3 hown3 hgrow hat hlt3; have hcap3 := own_at hown3)
      have HM3 := Lib.hid (twSt_last HST.out (by rw [HN.out]) hown3 hgrow hat hlt3)
      go_ret
      exact ⟨_, rfl, by have h := HM3.out.1; rw [HN.out] at h; exact h, HM3.out.2⟩
theorem twin_any (N : Nat) : TwinOk N := by
  induction N using Nat.strongRecOn with
  | _ N ih => exact twin_step ih
end Go.Proofs.Ytkfffoolpdilnaa
