/-
  Walks: a Book is told of a list of texts.
-/
import Derived.Test.YtkfffoolpdilnaaGreatDoorBkG
namespace Go.Proofs.YtkfffoolpdilnaaGreatDoor
open Go.RowKit Go.Bd
theorem flat_append : ∀ (es fs : List Ent), flat (es ++ fs) = flat es ++ flat fs
  | [], _ => rfl
  | e :: es, fs => by rw [List.cons_append, flat, flat, flat_append es fs, List.append_assoc]
theorem held_info : (Tryz.prog.info? 89).map (fun i => (i.zero, i.size, i.bytes)) = some (some (.agg #[.slice none 0 0, .slice none 0 0, .int .i64 0]), 3, 56) := by kernel_rfl
section
variable {O : Nat → Option Obj} {B : Nat} {w W W' : World} {bk : Nat} {cs cs' : Array Value} {A : Option Addr} {c : Nat} {es : List Ent}
theorem TxSt.push (h : TxSt O B w W bk cs A c es) (hc : Chg W W' (fun b => b = bk ∨ some b = (Value.slice A es.length c).ownBlock)) (hbk : Holds W' bk 50 cs') {g cap : Nat} (c3 : cs'[3]? = some (.slice (some ⟨g, 0, none⟩) (es.length + 1) cap))
    {v : Value} {n len : Nat} (ho : W'.ownsRow B tH 3 (.slice (some ⟨g, 0, none⟩) (es.length + 1) cap) (es.length + 1) (flat es ++ [v, .slice none 0 0, .int .i64 (n : Int)]))
    (hat : (Value.slice A es.length c).ownBlock = some g ∨ W.heap.size ≤ g) (hlt : ∀ (i : Nat) f b, es[i]? = some f → f.v.ownBlock = some b → b < W.heap.size)
    (hv : ∀ b, v.ownBlock = some b → b < W.heap.size ∧ b ≠ bk ∧ (Value.slice A es.length c).ownBlock ≠ some b ∧ O b = none ∧ ∀ (i : Nat) f, es[i]? = some f → f.v.ownBlock ≠ some b)
    (hn : es.length < 1000000) (hn2 : n ≤ 1000000) (hle : len ≤ 2147483647) :
    TxSt O B w W' bk cs' (some ⟨g, 0, none⟩) cap (es ++ [⟨v, .slice none 0 0, n, len⟩]) := by
  have hsB : ∀ k, (k = bk ∨ some k = (Value.slice A es.length c).ownBlock) → B ≤ k := fun k hk => by
    rcases hk with rfl | hk
    · exact h.bkB
    · exact (h.row.lt k hk.symm).1
  have hbl := h.hbk.lt
  have hgb : g ≠ bk := fun e => by
    rcases hat with h1 | h1
    · exact h.bkr (by rw [h1, e])
    · omega
  have hL : (es ++ [(⟨v, .slice none 0 0, n, len⟩ : Ent)]).length = es.length + 1 := by simp
  have hget : ∀ (i : Nat) f, (es ++ [(⟨v, .slice none 0 0, n, len⟩ : Ent)])[i]? = some f → es[i]? = some f ∨ (i = es.length ∧ f = ⟨v, .slice none 0 0, n, len⟩) := fun i f hf => by
    by_cases hi : i < es.length
    · rw [List.getElem?_append_left hi] at hf; exact .inl hf
    · rw [List.getElem?_append_right (by omega)] at hf
      obtain ⟨h1, h2⟩ := List.getElem?_eq_some_iff.1 hf
      simp at h1 h2
      exact .inr ⟨by omega, h2.symm⟩
  have hoth : ∀ b, b < W.heap.size → (Value.slice A es.length c).ownBlock ≠ some b → b ≠ g := fun b h1 h2 e => by
    rcases hat with h3 | h3
    · exact h2 (by rw [h3, e])
    · omega
  have hO : ∀ (b : Nat) o, O b = some o → b < W.heap.size := fun b o ho => (Array.getElem?_eq_some_iff.1 (h.kp b o ho)).1
  refine ⟨h.hb.trans (hc.toBelow (Nat.le_trans h.wB h.hb.size) hsB), h.wB, h.tab.keep (hc.block _ h.tab.lt (fun hs => by have := hsB _ hs; have := h.tabB; omega)), h.tabB, h.bkB, hbk, by rw [hL]; exact c3, ?_, ?_, ?_, ?_, ?_, ?_, ?_, ?_⟩
  · rw [hL, flat_append]
    exact ho
  · rw [hL]
    exact fun e => hgb (by simpa [Value.ownBlock] using e)
  · intro i f hf
    rw [hL]
    rcases hget i f hf with h1 | ⟨_, rfl⟩
    · refine ⟨(h.ap i f h1).1, fun b hb e => hoth b (hlt i f b h1 hb) ((h.ap i f h1).2 b hb) (by simpa [Value.ownBlock] using e.symm)⟩
    · refine ⟨fun e => (hv bk e).2.1 rfl, fun b hb e => hoth b (hv b hb).1 (hv b hb).2.2.1 (by simpa [Value.ownBlock] using e.symm)⟩
  · intro i j f f' hij hf hf' b hb
    rcases hget i f hf with h1 | ⟨h1, rfl⟩ <;> rcases hget j f' hf' with h2 | ⟨h2, rfl⟩
    · exact h.un i j f f' hij h1 h2 b hb
    · exact fun e => (hv b e).2.2.2.2 i f h1 hb
    · exact fun e => (hv b hb).2.2.2.2 j f' h2 e
    · omega
  · intro b o ho'
    refine (hc.block b (hO b o ho') (fun hs => ?_)).trans (h.kp b o ho')
    rcases hs with hs | hs
    · exact (h.kd b o ho').1 hs
    · exact (h.kd b o ho').2.1 hs.symm
  · intro b o ho'
    rw [hL]
    refine ⟨(h.kd b o ho').1, fun e => hoth b (hO b o ho') (h.kd b o ho').2.1 (by simpa [Value.ownBlock] using e.symm), fun i f hf => ?_⟩
    rcases hget i f hf with h1 | ⟨_, rfl⟩
    · exact (h.kd b o ho').2.2 i f h1
    · exact fun e => by have := (hv b e).2.2.2.1; rw [this] at ho'; cases ho'
  · intro i f b hf hb
    rcases hget i f hf with h1 | ⟨_, rfl⟩
    · exact h.kl i f b h1 hb
    · cases hb
  · refine ⟨by rw [hL]; omega, fun i f hf => ?_⟩
    rcases hget i f hf with h1 | ⟨_, rfl⟩
    · exact h.sm.2 i f h1
    · exact ⟨hn2, hle, _, _, _, rfl⟩
end
set_option maxRecDepth 100000 in
set_option maxHeartbeats 2000000 in
theorem keepText_any {O : Nat → Option Obj} {B : Nat} {w W : World} {bk : Nat} {cs : Array Value} {A : Option Addr} {c : Nat} {es : List Ent} (hs : TxSt O B w W bk cs A c es) {n : Nat} (h0 : cs[0]? = some (.int .i64 (n : Int))) (hn : n < 1000000)
    (vA : Option Addr) (len vc : Nat) (hlt : ∀ (i : Nat) f b, es[i]? = some f → f.v.ownBlock = some b → b < W.heap.size)
    (hv : ∀ b, (Value.slice vA len vc).ownBlock = some b → b < W.heap.size ∧ b ≠ bk ∧ (Value.slice A es.length c).ownBlock ≠ some b ∧ O b = none ∧ ∀ (i : Nat) f, es[i]? = some f → f.v.ownBlock ≠ some b)
    (hl : es.length < 1000000) (hle : len ≤ 2147483647) :
    Calls Tryz.prog 30 #[.pointer (some ⟨bk, 0, none⟩), .slice vA len vc] W fun e W' => e = .returned (.tuple #[]) ∧
      ∃ A' c', TxSt O B w W' bk ((cs.setIfInBounds 0 (.int .i64 ((n + 1 : Nat) : Int))).setIfInBounds 3 (.slice A' (es.length + 1) c')) A' c' (es ++ [⟨.slice vA len vc, .slice none 0 0, n + 1, len⟩]) ∧ Chg W W' (fun b => b = bk ∨ some b = (Value.slice A es.length c).ownBlock) ∧ ∀ b, (Value.slice A' (es.length + 1) c').ownBlock = some b → (Value.slice A es.length c).ownBlock = some b ∨ W.heap.size ≤ b := by
  have b0 := (hs.hbk.cell 0).trans h0
  have f0 := hs.hbk.free 0
  have hbl := hs.hbk.lt
  have hkr := hs.bkr
  have hBW : B ≤ W.heap.size := Nat.le_trans hs.wB hs.hb.size
  obtain ⟨i0, hi0, hz0, hz1, hz2⟩ := info_parts held_info
  have hcsz : 3 < cs.size := (Array.getElem?_eq_some_iff.1 hs.c3).1
  have h1 : Holds (W.setCell ⟨bk, 0, none⟩ (.int .i64 ((n : Int) + 1))) bk 50 (cs.setIfInBounds 0 (.int .i64 ((n : Int) + 1))) := hs.hbk.set 0 _
  have hr1 : (W.setCell ⟨bk, 0, none⟩ (.int .i64 ((n : Int) + 1))).ownsRow B tH 3 (.slice A es.length c) es.length (flat es) := (Chg.set W ⟨bk, 0, none⟩ (.int .i64 ((n : Int) + 1))).owns hs.row (fun b hb e => hkr (by rw [hb, show b = bk from e]))
  have hC1 := Chg.set W ⟨bk, 0, none⟩ (.int .i64 ((n : Int) + 1))
  have hz : (W.setCell ⟨bk, 0, none⟩ (.int .i64 ((n : Int) + 1))).heap.size = W.heap.size := by simp [World.setCell]
  have d0 := h1.cell 0
  have d3 := h1.cell 3
  have f3 := h1.free 3
  rw [Array.getElem?_setIfInBounds_self_of_lt (by omega)] at d0
  rw [Array.getElem?_setIfInBounds_ne (by omega), hs.c3] at d3
  have HS := Lib.hid (And.intro hs (And.intro hlt hv))
  have HR := Lib.hid (And.intro h1 (And.intro hr1 (And.intro hC1 hz)))
  have HZ := Lib.hid (And.intro hi0 (And.intro hz0 (And.intro hz1 hz2)))
  clear hs hlt hv h1 hr1 hC1 h0 hi0 hz0 hz1 hz2 hz
  have hfl := hbl
  go_enter Tryz.func30, Tryz.ntmps30
  go_wp2
  clear b0 f0
  generalize W.setCell ⟨bk, 0, none⟩ (.int .i64 ((n : Int) + 1)) = W1 at HR d0 d3 f3 ⊢
  have hzs : W.heap.size ≤ W1.heap.size := Nat.le_of_eq HR.out.2.2.2.symm
  have hb1 : bk < W1.heap.size := by omega
  have e0 : (W1.alloc (.cells #[.slice vA len vc, .slice none 0 0, .int .i64 ((n : Int) + 1)] 89)).cell? ⟨bk, 0, none⟩ = some (.int .i64 ((n : Int) + 1)) := by rw [World.cell?_alloc_lt _ _ _ hb1]; exact d0
  have e3 : (W1.alloc (.cells #[.slice vA len vc, .slice none 0 0, .int .i64 ((n : Int) + 1)] 89)).cell? ⟨bk, 3, none⟩ = some (.slice A es.length c) := by rw [World.cell?_alloc_lt _ _ _ hb1]; exact d3
  refine wp_region_held_drew (S := (fun w' => w'.cell? ⟨bk, 0, none⟩ = some (.int .i64 ((n : Int) + 1)))) (by kernel_rfl) ?_ (fun hHeld0 => ?_)
  · (try dsimp only)
    first | exact d0 | exact e0 | exact g0 | exact k0
  refine wpAnyH_take (i := 0) (oi := ⟨some 11, _, _, _, _, _⟩) (v := ?_) rfl (by kernel_rfl) (by kernel_rfl) (by kernel_rfl) (fun _ _ _ h => h) (Or.inl ⟨by kernel_rfl, ?_⟩) (by assumption) ?_
  rotate_left
  · (intro w hSw; (try dsimp only at hSw); go_simp; (first | done | with_reducible rfl))
  (try simp only [Act.put, List.setIfInBounds_toArray, List.set_cons_zero, List.set_cons_succ])
  refine wpAnyH_take (i := 1) (oi := ⟨some 12, _, _, _, _, _⟩) (v := ?_) rfl (by kernel_rfl) (by kernel_rfl) (by kernel_rfl) (fun _ _ _ h => h) (Or.inl ⟨by kernel_rfl, ?_⟩) (by assumption) ?_
  rotate_left
  · (intro w hSw; (try dsimp only at hSw); go_simp; (first | done | with_reducible rfl))
  (try simp only [Act.put, List.setIfInBounds_toArray, List.set_cons_zero, List.set_cons_succ])
  refine wpAnyH_take (i := 2) (oi := ⟨some 13, _, _, _, _, _⟩) (v := ?_) rfl (by kernel_rfl) (by kernel_rfl) (by kernel_rfl) (fun _ _ _ h => h) (Or.inl ⟨by kernel_rfl, ?_⟩) (by assumption) ?_
  rotate_left
  · (intro w hSw; (try dsimp only at hSw); go_simp; (first | done | with_reducible rfl))
  (try simp only [Act.put, List.setIfInBounds_toArray, List.set_cons_zero, List.set_cons_succ])
  refine wpAnyH_take (i := 3) (oi := ⟨some 14, _, _, _, _, _⟩) (v := ?_) rfl (by kernel_rfl) (by kernel_rfl) (by kernel_rfl) (fun _ _ _ h => h) (Or.inl ⟨by kernel_rfl, ?_⟩) (by assumption) ?_
  rotate_left
  · (intro w hSw; (try dsimp only at hSw); go_simp; (first | done | with_reducible rfl))
  (try simp only [Act.put, List.setIfInBounds_toArray, List.set_cons_zero, List.set_cons_succ])
  refine wpAnyH_take (i := 5) (oi := ⟨some 16, _, _, _, _, _⟩) (v := ?_) rfl (by kernel_rfl) (by kernel_rfl) (by kernel_rfl) (fun _ _ _ h => h) (Or.inl ⟨by kernel_rfl, ?_⟩) (by assumption) ?_
  rotate_left
  · (intro w hSw; (try dsimp only at hSw); go_simp; (first | done | with_reducible rfl))
  (try simp only [Act.put, List.setIfInBounds_toArray, List.set_cons_zero, List.set_cons_succ])
  refine wpAnyH_take (i := 6) (oi := ⟨some 17, _, _, _, _, _⟩) (v := ?_) rfl (by kernel_rfl) (by kernel_rfl) (by kernel_rfl) (fun _ _ _ h => h) (Or.inl ⟨by kernel_rfl, ?_⟩) (by assumption) ?_
  rotate_left
  · (intro w hSw; (try dsimp only at hSw); go_simp; (first | done | with_reducible rfl))
  (try simp only [Act.put, List.setIfInBounds_toArray, List.set_cons_zero, List.set_cons_succ])
  refine wpAnyH_take (i := 7) (oi := ⟨some 18, _, _, _, _, _⟩) (v := ?_) rfl (by kernel_rfl) (by kernel_rfl) (by kernel_rfl) (fun _ _ _ h => h) (Or.inl ⟨by kernel_rfl, ?_⟩) (by assumption) ?_
  rotate_left
  · (intro w hSw; (try dsimp only at hSw); go_simp; (first | done | with_reducible rfl))
  (try simp only [Act.put, List.setIfInBounds_toArray, List.set_cons_zero, List.set_cons_succ])
  refine wpAnyH_take (i := 8) (oi := ⟨some 19, _, _, _, _, _⟩) (v := ?_) rfl (by kernel_rfl) (by kernel_rfl) (by kernel_rfl) (fun _ _ _ h => h) (Or.inl ⟨by kernel_rfl, ?_⟩) (by assumption) ?_
  rotate_left
  · (intro w hSw; (try dsimp only at hSw); go_simp; (first | done | with_reducible rfl))
  (try simp only [Act.put, List.setIfInBounds_toArray, List.set_cons_zero, List.set_cons_succ])
  refine wpAnyH_take (i := 9) (oi := ⟨some 20, _, _, _, _, _⟩) (v := ?_) rfl (by kernel_rfl) (by kernel_rfl) (by kernel_rfl) (fun _ _ _ h => h) (Or.inl ⟨by kernel_rfl, ?_⟩) (by assumption) ?_
  rotate_left
  · (intro w hSw; (try dsimp only at hSw); go_simp; (first | done | with_reducible rfl))
  (try simp only [Act.put, List.setIfInBounds_toArray, List.set_cons_zero, List.set_cons_succ])
  refine wpAnyH_take (i := 10) (oi := ⟨some 21, _, _, _, _, _⟩) (v := ?_) rfl (by kernel_rfl) (by kernel_rfl) (by kernel_rfl) (fun _ _ _ h => h) (Or.inl ⟨by kernel_rfl, ?_⟩) (by assumption) ?_
  rotate_left
  · (intro w hSw; (try dsimp only at hSw); go_simp; (first | done | with_reducible rfl))
  (try simp only [Act.put, List.setIfInBounds_toArray, List.set_cons_zero, List.set_cons_succ])
  refine wpAnyH_ready (rs := [4, 11]) (by kernel_rfl) (by simp) ?_
  refine AllReadyH.cons (o := ⟨some 15, _, _, _, _, _⟩) rfl (fun K hK => ?_) ?_
  · skip
    go_simp
    refine hK.out _ _ ?_ (fun hHeld1 => ?_)
    · (try dsimp only)
      first | exact d0 | exact e0 | exact g0 | exact k0
    clear hK K hHeld0
    (try simp only [Act.put, List.setIfInBounds_toArray, List.set_cons_zero, List.set_cons_succ])
    refine wpAnyH_ready (rs := [11]) (by kernel_rfl) (by simp) ?_
    refine AllReadyH.cons (o := ⟨some 22, _, _, _, _, _⟩) rfl (fun K hK => ?_) AllReadyH.nil
    go_simp
    refine hK.out _ _ ?_ (fun hHeld2 => ?_)
    · (try dsimp only)
      first | exact d0 | exact e0 | exact g0 | exact k0
    clear hK K hHeld1
    (try simp only [Act.put, List.setIfInBounds_toArray, List.set_cons_zero, List.set_cons_succ])
    refine wpAnyH_ready (rs := [12]) (by kernel_rfl) (by simp) ?_
    refine AllReadyH.cons (o := ⟨some 23, _, _, _, _, _⟩) rfl (fun K hK => ?_) AllReadyH.nil
    refine step_append_lies _ (by rfl) _ _ _ (by rfl) B 89 i0 _ 3 56 Tryz.underlying34 HZ.out.1 HZ.out.2.1 HZ.out.2.2.1 HZ.out.2.2.2 rfl (by omega) (.slice A es.length c) es.length (flat es) (by rfl) ((HR.out.2.1.alloc _).drew)
      ⟨W1.heap.size, 0, none⟩ 1 1 [.slice vA len vc, .slice none 0 0, .int .i64 ((n : Int) + 1)] (by rfl) (by rfl) (World.news_of_block (cs := #[.slice vA len vc, .slice none 0 0, .int .i64 ((n : Int) + 1)]) (t := 89) (fr := (0, 0)) (heap_alloc_new W1 _)) (by simp [Value.oneCell'])
      (by omega) (by unfold maxLen; omega) (by omega) (by simp; omega) (W1.heap.size + 1) (by simp) ?_
    intro g cap w2 ho2 hg2 hat2 hl2
    have hC2 : Chg W1 w2 (fun b => some b = (Value.slice A es.length c).ownBlock) := (((Chg.refl W1 _).alloc _).drew).trans (Chg.grown hg2) (fun _ _ h => h)
    have hgb : g ≠ bk := fun e => by
      rcases hat2 with h | h
      · exact hkr (by rw [h, e])
      · omega
    have hh2 := hC2.holds (fun h => hkr h.symm) HR.out.1
    have g0 := hC2.cell (p := ⟨bk, 0, none⟩) (fun h => hkr h.symm) d0
    have g3 := hC2.cell (p := ⟨bk, 3, none⟩) (fun h => hkr h.symm) d3
    have q3 := hh2.free 3
    have k0 := cell_off (i := 3) (j := 0) (by omega) (.slice (some ⟨g, 0, none⟩) (es.length + 1) cap) g0
    have HE := Lib.hid (And.intro hC2 (And.intro ho2 (And.intro hat2 hh2)))
    clear hC2 ho2 hat2 hh2 hg2
    refine hK.out _ _ ?_ (fun hHeld3 => ?_)
    · (try dsimp only)
      first | exact d0 | exact e0 | exact g0 | exact k0
    clear hK K hHeld2
    (try simp only [Act.put, List.setIfInBounds_toArray, List.set_cons_zero, List.set_cons_succ])
    refine wpAnyH_take (i := 13) (oi := ⟨some 24, _, _, _, _, _⟩) (v := ?_) rfl (by kernel_rfl) (by kernel_rfl) (by kernel_rfl) (fun _ _ _ h => h) (Or.inl ⟨by kernel_rfl, ?_⟩) (by assumption) ?_
    rotate_left
    · (intro w hSw; (try dsimp only at hSw); go_simp; (first | done | with_reducible rfl))
    (try simp only [Act.put, List.setIfInBounds_toArray, List.set_cons_zero, List.set_cons_succ])
    refine wpAnyH_take (i := 14) (oi := ⟨some 25, _, _, _, _, _⟩) (v := ?_) rfl (by kernel_rfl) (by kernel_rfl) (by kernel_rfl) (fun _ _ _ h => h) (Or.inl ⟨by kernel_rfl, ?_⟩) (by assumption) ?_
    rotate_left
    · (intro w hSw; (try dsimp only at hSw); go_simp; (first | done | with_reducible rfl))
    (try simp only [Act.put, List.setIfInBounds_toArray, List.set_cons_zero, List.set_cons_succ])
    refine wpAnyH_ready (rs := [15]) (by kernel_rfl) (by simp) ?_
    refine AllReadyH.cons rfl (fun K hK => ?_) AllReadyH.nil
    go_simp
    refine hK.out _ _ ?_ (fun hHeld4 => ?_)
    · (try dsimp only)
      first | exact d0 | exact e0 | exact g0 | exact k0
    clear hK K hHeld3
    (try simp only [Act.put, List.setIfInBounds_toArray, List.set_cons_zero, List.set_cons_succ])
    refine wpAnyH_done (by kernel_rfl) ?_ _
    go_wp2
    go_end0
    refine ⟨rfl, some ⟨g, 0, none⟩, cap, ?_⟩
    have hC := Chg.set w2 ⟨bk, 3, none⟩ (.slice (some ⟨g, 0, none⟩) (es.length + 1) cap)
    have hall : Chg W (w2.setCell ⟨bk, 3, none⟩ (.slice (some ⟨g, 0, none⟩) (es.length + 1) cap)) (fun b => b = bk ∨ some b = (Value.slice A es.length c).ownBlock) :=
      (HR.out.2.2.1.mono (T := fun b => b = bk ∨ some b = (Value.slice A es.length c).ownBlock) (fun k _ h => .inl h)).trans ((HE.out.1.mono (T := fun b => b = bk ∨ some b = (Value.slice A es.length c).ownBlock) (fun k _ h => .inr h)).trans (hC.mono (T := fun b => b = bk ∨ some b = (Value.slice A es.length c).ownBlock) (fun k _ h => .inl h)) (fun _ _ h => h)) (fun _ _ h => h)
    refine ⟨HS.out.1.push hall (HE.out.2.2.2.set 3 _) ?_ (hC.owns HE.out.2.1 (fun k hk e => hgb ((show g = k from (by simpa [Value.ownBlock] using hk)).trans e))) ?_ HS.out.2.1 HS.out.2.2 hl (by omega) hle, hall, fun b hb => ?_⟩
    · rw [Array.getElem?_setIfInBounds_self_of_lt (by simp; omega)]
    · rcases HE.out.2.2.1 with h | h
      · exact .inl h
      · exact .inr (by omega)
    · have e1 : g = b := by simpa [Value.ownBlock] using hb
      rw [← e1]
      rcases HE.out.2.2.1 with h | h
      · exact .inl h
      · exact .inr (by omega)
  refine AllReadyH.cons (o := ⟨some 22, _, _, _, _, _⟩) rfl (fun K hK => ?_) AllReadyH.nil
  go_simp
  refine hK.out _ _ ?_ (fun hHeld1 => ?_)
  · (try dsimp only)
    first | exact d0 | exact e0 | exact g0 | exact k0
  clear hK K hHeld0
  (try simp only [Act.put, List.setIfInBounds_toArray, List.set_cons_zero, List.set_cons_succ])
  refine wpAnyH_ready (rs := [4]) (by kernel_rfl) (by simp) ?_
  refine AllReadyH.cons (o := ⟨some 15, _, _, _, _, _⟩) rfl (fun K hK => ?_) AllReadyH.nil
  go_simp
  refine hK.out _ _ ?_ (fun hHeld2 => ?_)
  · (try dsimp only)
    first | exact d0 | exact e0 | exact g0 | exact k0
  clear hK K hHeld1
  (try simp only [Act.put, List.setIfInBounds_toArray, List.set_cons_zero, List.set_cons_succ])
  refine wpAnyH_ready (rs := [12]) (by kernel_rfl) (by simp) ?_
  refine AllReadyH.cons (o := ⟨some 23, _, _, _, _, _⟩) rfl (fun K hK => ?_) AllReadyH.nil
  refine step_append_lies _ (by rfl) _ _ _ (by rfl) B 89 i0 _ 3 56 Tryz.underlying34 HZ.out.1 HZ.out.2.1 HZ.out.2.2.1 HZ.out.2.2.2 rfl (by omega) (.slice A es.length c) es.length (flat es) (by rfl) ((HR.out.2.1.alloc _).drew)
    ⟨W1.heap.size, 0, none⟩ 1 1 [.slice vA len vc, .slice none 0 0, .int .i64 ((n : Int) + 1)] (by rfl) (by rfl) (World.news_of_block (cs := #[.slice vA len vc, .slice none 0 0, .int .i64 ((n : Int) + 1)]) (t := 89) (fr := (0, 0)) (heap_alloc_new W1 _)) (by simp [Value.oneCell'])
    (by omega) (by unfold maxLen; omega) (by omega) (by simp; omega) (W1.heap.size + 1) (by simp) ?_
  intro g cap w2 ho2 hg2 hat2 hl2
  have hC2 : Chg W1 w2 (fun b => some b = (Value.slice A es.length c).ownBlock) := (((Chg.refl W1 _).alloc _).drew).trans (Chg.grown hg2) (fun _ _ h => h)
  have hgb : g ≠ bk := fun e => by
    rcases hat2 with h | h
    · exact hkr (by rw [h, e])
    · omega
  have hh2 := hC2.holds (fun h => hkr h.symm) HR.out.1
  have g0 := hC2.cell (p := ⟨bk, 0, none⟩) (fun h => hkr h.symm) d0
  have g3 := hC2.cell (p := ⟨bk, 3, none⟩) (fun h => hkr h.symm) d3
  have q3 := hh2.free 3
  have k0 := cell_off (i := 3) (j := 0) (by omega) (.slice (some ⟨g, 0, none⟩) (es.length + 1) cap) g0
  have HE := Lib.hid (And.intro hC2 (And.intro ho2 (And.intro hat2 hh2)))
  clear hC2 ho2 hat2 hh2 hg2
  refine hK.out _ _ ?_ (fun hHeld3 => ?_)
  · (try dsimp only)
    first | exact d0 | exact e0 | exact g0 | exact k0
  clear hK K hHeld2
  (try simp only [Act.put, List.setIfInBounds_toArray, List.set_cons_zero, List.set_cons_succ])
  refine wpAnyH_take (i := 13) (oi := ⟨some 24, _, _, _, _, _⟩) (v := ?_) rfl (by kernel_rfl) (by kernel_rfl) (by kernel_rfl) (fun _ _ _ h => h) (Or.inl ⟨by kernel_rfl, ?_⟩) (by assumption) ?_
  rotate_left
  · (intro w hSw; (try dsimp only at hSw); go_simp; (first | done | with_reducible rfl))
  (try simp only [Act.put, List.setIfInBounds_toArray, List.set_cons_zero, List.set_cons_succ])
  refine wpAnyH_take (i := 14) (oi := ⟨some 25, _, _, _, _, _⟩) (v := ?_) rfl (by kernel_rfl) (by kernel_rfl) (by kernel_rfl) (fun _ _ _ h => h) (Or.inl ⟨by kernel_rfl, ?_⟩) (by assumption) ?_
  rotate_left
  · (intro w hSw; (try dsimp only at hSw); go_simp; (first | done | with_reducible rfl))
  (try simp only [Act.put, List.setIfInBounds_toArray, List.set_cons_zero, List.set_cons_succ])
  refine wpAnyH_ready (rs := [15]) (by kernel_rfl) (by simp) ?_
  refine AllReadyH.cons rfl (fun K hK => ?_) AllReadyH.nil
  go_simp
  refine hK.out _ _ ?_ (fun hHeld4 => ?_)
  · (try dsimp only)
    first | exact d0 | exact e0 | exact g0 | exact k0
  clear hK K hHeld3
  (try simp only [Act.put, List.setIfInBounds_toArray, List.set_cons_zero, List.set_cons_succ])
  refine wpAnyH_done (by kernel_rfl) ?_ _
  go_wp2
  go_end0
  refine ⟨rfl, some ⟨g, 0, none⟩, cap, ?_⟩
  have hC := Chg.set w2 ⟨bk, 3, none⟩ (.slice (some ⟨g, 0, none⟩) (es.length + 1) cap)
  have hall : Chg W (w2.setCell ⟨bk, 3, none⟩ (.slice (some ⟨g, 0, none⟩) (es.length + 1) cap)) (fun b => b = bk ∨ some b = (Value.slice A es.length c).ownBlock) :=
    (HR.out.2.2.1.mono (T := fun b => b = bk ∨ some b = (Value.slice A es.length c).ownBlock) (fun k _ h => .inl h)).trans ((HE.out.1.mono (T := fun b => b = bk ∨ some b = (Value.slice A es.length c).ownBlock) (fun k _ h => .inr h)).trans (hC.mono (T := fun b => b = bk ∨ some b = (Value.slice A es.length c).ownBlock) (fun k _ h => .inl h)) (fun _ _ h => h)) (fun _ _ h => h)
  refine ⟨HS.out.1.push hall (HE.out.2.2.2.set 3 _) ?_ (hC.owns HE.out.2.1 (fun k hk e => hgb ((show g = k from (by simpa [Value.ownBlock] using hk)).trans e))) ?_ HS.out.2.1 HS.out.2.2 hl (by omega) hle, hall, fun b hb => ?_⟩
  · rw [Array.getElem?_setIfInBounds_self_of_lt (by simp; omega)]
  · rcases HE.out.2.2.1 with h | h
    · exact .inl h
    · exact .inr (by omega)
  · have e1 : g = b := by simpa [Value.ownBlock] using hb
    rw [← e1]
    rcases HE.out.2.2.1 with h | h
    · exact .inl h
    · exact .inr (by omega)
end Go.Proofs.YtkfffoolpdilnaaGreatDoor
