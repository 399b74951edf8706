/-
  What the chapter's laws share, part 3: plain facts, memory, and walks of functions. Its conditions: those that each theorem names.
-/
import Derived.Test.YtggnkpblfmjbcaaGreatDoorK2
set_option linter.unusedSimpArgs false
set_option linter.unusedVariables false
namespace Go.Proofs.YtggnkpblfmjbcaaGreatDoor
open Go.RowKit Go.Bd
theorem cont3 {G : Prop} (Fa P : World → Nat → Nat → Prop) (h1 : (∀ W g c, Fa W g c → P W g c) → G) (h2 : ∀ W g c, Fa W g c → P W g c) : G := h1 h2
set_option maxRecDepth 100000 in
set_option maxHeartbeats 8000000 in
theorem does_any {w : World} {O F : Nat → Prop} {db size : Nat} {lv rv : Value} {l : Fs} {h : List Raw} (H : RDs w O F db size lv l rv h) (r : Raw) (v : Value) (hv : ByR w F v r.b) (hf : r.k ≠ 0 → fnd l r.n = true) (hA : Asc l)
    (hl : l.length ≤ 1000000) (hh : h.length ≤ 1000000) (hn80 : ∀ p ∈ l, p.1.size ≤ 80) (hr80 : r.n.size ≤ 80) (hq : ∀ p ∈ l, p.2.length ≤ 100000000) (hb : r.b.length ≤ 100000000) :
    Calls Tryz.prog 41 #[.pointer (some ⟨db, 0, none⟩), .agg #[.int .i64 (r.k : Int), .string r.n, v]] w fun e w' => e = .returned (.tuple #[]) ∧ ∃ O' F' lv' rv', RDs w' O' F' db size lv' (r.appO l) rv' (h ++ [r]) ∧ TurnD w w' O F O' F' := by
  obtain ⟨A, c, rfl⟩ : ∃ A c, rv = .slice A h.length c := by
    rcases H.rw.form with ⟨h1, h2⟩ | ⟨g, c, h1, h2, _⟩
    · exact ⟨none, 0, by rw [h1, h2]; rfl⟩
    · exact ⟨_, _, h1⟩
  obtain ⟨VA, vc, rfl⟩ : ∃ VA vc, v = .slice VA r.b.length vc := by
    obtain ⟨A', c', h1, _⟩ := hv
    exact ⟨_, _, h1⟩
  obtain ⟨i0, hi0, hz0, hz1, hz2⟩ := info_parts raw_info
  have hrl := H.hold.lt
  have hb0 := (Below.refl w.heap.size w).alloc (Nat.le_refl _) (.cells #[.int .i64 (r.k : Int), .string r.n, .slice VA r.b.length vc] 92)
  have h1 := H.below hb0
  have hv1 := hv.chg (Chg.below hb0 (fun _ => False)) (fun _ h => h) (fun _ _ h => h)
  have hX := Holds.new w 92 #[.int .i64 (r.k : Int), .string r.n, .slice VA r.b.length vc]
  have hT0 : TurnD w (w.alloc (.cells #[.int .i64 (r.k : Int), .string r.n, .slice VA r.b.length vc] 92)) O F O F := TurnD.below hb0
  have hsz : (w.alloc (.cells #[.int .i64 (r.k : Int), .string r.n, .slice VA r.b.length vc] 92)).heap.size = w.heap.size + 1 := by simp
  obtain ⟨n, hn⟩ : ∃ n, w.heap.size = n := ⟨_, rfl⟩
  rw [hn] at hX hsz
  obtain ⟨W1, hW1⟩ : ∃ W1, w.alloc (.cells #[.int .i64 (r.k : Int), .string r.n, .slice VA r.b.length vc] 92) = W1 := ⟨_, rfl⟩
  rw [hW1] at h1 hX hT0 hsz hv1
  obtain ⟨vs, kl, ko, kt⟩ := h1.rw
  have d0 := hX.cell 0
  have d1 := hX.cell 1
  have d2 := hX.cell 2
  have d3 := h1.hold.cell 2
  have f3 := h1.hold.free 2
  simp at d0 d1 d2 d3
  have hb1 : db < W1.heap.size := h1.hold.lt
  have hbx : n < W1.heap.size := by omega
  have hkr : (Value.slice A h.length c).ownBlock ≠ some db := fun e => (h1.oR db e).2.1 rfl
  have hkn : (Value.slice A h.length c).ownBlock ≠ some n := fun e => by have := H.ltO n (H.oR n e).1; omega
  have hrn : db ≠ n := by omega
  have HR := Lib.hid (And.intro h1 (And.intro hT0 hv1))
  have HZ := Lib.hid (And.intro hi0 (And.intro hz0 (And.intro hz1 hz2)))
  have HV := Lib.hid (And.intro kl (And.intro ko kt))
  have HX := Lib.hid hX
  have HSZ := Lib.hid hsz
  have HHY := Lib.hid (And.intro hf (And.intro hA (And.intro hn80 (And.intro hr80 hq))))
  have HNO : Hid (¬ O n ∧ ¬ F n) := Lib.hid ⟨fun e => by have := H.ltO n e; omega, fun e => by have := H.ltF n e; omega⟩
  clear H h1 hv hT0 hi0 hz0 hz1 hz2 hX hsz hb0 hv1 kl ko kt hf hA hn80 hq
  obtain ⟨kv, hkv⟩ : ∃ kv, r.k = kv := ⟨_, rfl⟩
  obtain ⟨nm, hnm⟩ : ∃ nm, r.n = nm := ⟨_, rfl⟩
  obtain ⟨bl, hbl⟩ : ∃ bl, r.b.length = bl := ⟨_, rfl⟩
  rw [hkv] at d0 hW1 ⊢
  rw [hnm] at d1 hW1 hr80 ⊢
  rw [hbl] at d2 hW1 hb ⊢
  have HKN := Lib.hid (And.intro hkv (And.intro hnm hbl))
  clear hkv hnm hbl
  have e0 : (W1.alloc (.cells #[.int .i64 (kv : Int), .string nm, .slice VA bl vc] 92)).cell? ⟨n, 0, none⟩ = some (.int .i64 (kv : Int)) := by rw [World.cell?_alloc_lt _ _ _ hbx]; exact d0
  have e1 : (W1.alloc (.cells #[.int .i64 (kv : Int), .string nm, .slice VA bl vc] 92)).cell? ⟨n, 1, none⟩ = some (.string nm) := by rw [World.cell?_alloc_lt _ _ _ hbx]; exact d1
  have e2 : (W1.alloc (.cells #[.int .i64 (kv : Int), .string nm, .slice VA bl vc] 92)).cell? ⟨n, 2, none⟩ = some (.slice VA bl vc) := by rw [World.cell?_alloc_lt _ _ _ hbx]; exact d2
  have e3 : (W1.alloc (.cells #[.int .i64 (kv : Int), .string nm, .slice VA bl vc] 92)).cell? ⟨db, 2, none⟩ = some (.slice A h.length c) := by rw [World.cell?_alloc_lt _ _ _ hb1]; exact d3
  go_enter Tryz.func41, Tryz.ntmps41
  go_wp2
  (try rw [hW1])
  (try rw [hn])
  have HN := Lib.hid hn
  clear hW1 hn
  refine cont3 (fun W g cap => RDs W (fun k => O k ∨ (Value.slice (some ⟨g, 0, none⟩) (h.length + 1) cap).ownBlock = some k) F db size lv l (.slice (some ⟨g, 0, none⟩) (h.length + 1) cap) (h ++ [r]) ∧ TurnD w W O F (fun k => O k ∨ (Value.slice (some ⟨g, 0, none⟩) (h.length + 1) cap).ownBlock = some k) F ∧
    Holds W n 92 #[.int .i64 (r.k : Int), .string r.n, .slice VA r.b.length vc] ∧ ByR W F (.slice VA bl vc) r.b ∧ ¬ (O n ∨ (Value.slice (some ⟨g, 0, none⟩) (h.length + 1) cap).ownBlock = some n)) ?Pcont (fun hP => ?_) ?_
  rotate_left
  · skip
    refine wp_region_held_drew (S := (fun w' => w'.cell? ⟨n, 0, none⟩ = some (.int .i64 (kv : Int)) ∧ w'.cell? ⟨n, 1, none⟩ = some (.string nm) ∧ w'.cell? ⟨n, 2, none⟩ = some (.slice VA bl vc))) (by kernel_rfl) ?_ (fun hHeld0 => ?_)
    · (try dsimp only)
      first | exact ⟨d0, d1, d2⟩ | exact ⟨e0, e1, e2⟩ | exact ⟨g0, g1, g2⟩ | exact ⟨k0, k1, k2⟩
    refine wpAnyH_take (i := 0) (oi := ⟨some 6, _, _, _, _, _⟩) (v := ?_) rfl (by kernel_rfl) (by kernel_rfl) (by kernel_rfl) (fun _ _ _ h => h) (Or.inl ⟨by kernel_rfl, ?_⟩) (by assumption) ?_
    rotate_left
    · (intro w hSw; (try dsimp only at hSw); go_simp; (first | done | with_reducible rfl))
    (try simp only [Act.put, List.setIfInBounds_toArray, List.set_cons_zero, List.set_cons_succ])
    refine wpAnyH_take (i := 1) (oi := ⟨some 7, _, _, _, _, _⟩) (v := ?_) rfl (by kernel_rfl) (by kernel_rfl) (by kernel_rfl) (fun _ _ _ h => h) (Or.inl ⟨by kernel_rfl, ?_⟩) (by assumption) ?_
    rotate_left
    · (intro w hSw; (try dsimp only at hSw); go_simp; (first | done | with_reducible rfl))
    (try simp only [Act.put, List.setIfInBounds_toArray, List.set_cons_zero, List.set_cons_succ])
    refine wpAnyH_take (i := 2) (oi := ⟨some 8, _, _, _, _, _⟩) (v := ?_) rfl (by kernel_rfl) (by kernel_rfl) (by kernel_rfl) (fun _ _ _ h => h) (Or.inl ⟨by kernel_rfl, ?_⟩) (by assumption) ?_
    rotate_left
    · (intro w hSw; (try dsimp only at hSw); go_simp; (first | done | with_reducible rfl))
    (try simp only [Act.put, List.setIfInBounds_toArray, List.set_cons_zero, List.set_cons_succ])
    refine wpAnyH_take (i := 3) (oi := ⟨some 9, _, _, _, _, _⟩) (v := ?_) rfl (by kernel_rfl) (by kernel_rfl) (by kernel_rfl) (fun _ _ _ h => h) (Or.inl ⟨by kernel_rfl, ?_⟩) (by assumption) ?_
    rotate_left
    · (intro w hSw; (try dsimp only at hSw); go_simp; (first | done | with_reducible rfl))
    (try simp only [Act.put, List.setIfInBounds_toArray, List.set_cons_zero, List.set_cons_succ])
    refine wpAnyH_take (i := 5) (oi := ⟨some 11, _, _, _, _, _⟩) (v := ?_) rfl (by kernel_rfl) (by kernel_rfl) (by kernel_rfl) (fun _ _ _ h => h) (Or.inl ⟨by kernel_rfl, ?_⟩) (by assumption) ?_
    rotate_left
    · (intro w hSw; (try dsimp only at hSw); go_simp; (first | done | with_reducible rfl))
    (try simp only [Act.put, List.setIfInBounds_toArray, List.set_cons_zero, List.set_cons_succ])
    refine wpAnyH_ready (rs := [4, 6]) (by kernel_rfl) (by simp) ?_
    refine AllReadyH.cons (o := ⟨some 10, _, _, _, _, _⟩) rfl (fun K hK => ?_) ?_
    · skip
      go_simp
      refine hK.out _ _ ?_ (fun hHeld1 => ?_)
      · (try dsimp only)
        first | exact ⟨d0, d1, d2⟩ | exact ⟨e0, e1, e2⟩ | exact ⟨g0, g1, g2⟩ | exact ⟨k0, k1, k2⟩
      clear hK K hHeld0
      (try simp only [Act.put, List.setIfInBounds_toArray, List.set_cons_zero, List.set_cons_succ])
      refine wpAnyH_ready (rs := [6]) (by kernel_rfl) (by simp) ?_
      refine AllReadyH.cons (o := ⟨some 12, _, _, _, _, _⟩) rfl (fun K hK => ?_) AllReadyH.nil
      go_simp
      refine hK.out _ _ ?_ (fun hHeld2 => ?_)
      · (try dsimp only)
        first | exact ⟨d0, d1, d2⟩ | exact ⟨e0, e1, e2⟩ | exact ⟨g0, g1, g2⟩ | exact ⟨k0, k1, k2⟩
      clear hK K hHeld1
      (try simp only [Act.put, List.setIfInBounds_toArray, List.set_cons_zero, List.set_cons_succ])
      refine wpAnyH_ready (rs := [7]) (by kernel_rfl) (by simp) ?_
      refine AllReadyH.cons (o := ⟨some 13, _, _, _, _, _⟩) rfl (fun K hK => ?_) AllReadyH.nil
      refine step_append_lies _ (by rfl) _ _ _ (by rfl) 0 92 i0 _ 3 48 Tryz.underlying72 HZ.out.1 HZ.out.2.1 HZ.out.2.2.1 HZ.out.2.2.2 rfl (by omega) (.slice A h.length c) h.length (rowC rawC h vs) (by rfl) ((HV.out.2.1.alloc _).drew)
        ⟨W1.heap.size, 0, none⟩ 1 1 [.int .i64 (kv : Int), .string nm, .slice VA bl vc] (by rfl) (by rfl) (World.news_of_block (cs := #[.int .i64 (kv : Int), .string nm, .slice VA bl vc]) (t := 92) (fr := (0, 0)) (heap_alloc_new W1 _)) (by simp [Value.oneCell'])
        (by omega) (by unfold maxLen; omega) (by omega) (Nat.zero_le _) (W1.heap.size + 1) (by simp) ?_
      intro g cap w2 ho2 hg2 hat2 hl2
      have hC2 : Chg W1 w2 (fun b => (Value.slice A h.length c).ownBlock = some b) := (((Chg.refl W1 _).alloc _).drew).trans (Chg.grown hg2) (fun _ _ h => h.symm)
      have hgb : g ≠ db := fun e => by
        rcases hat2 with h | h
        · exact hkr (by rw [h, e])
        · omega
      have hgn : g ≠ n := fun e => by
        rcases hat2 with h | h
        · exact hkn (by rw [h, e])
        · omega
      have hh2 := hC2.holds hkr HR.out.1.hold
      have g0 := hC2.cell (p := ⟨n, 0, none⟩) hkn d0
      have g1 := hC2.cell (p := ⟨n, 1, none⟩) hkn d1
      have g2 := hC2.cell (p := ⟨n, 2, none⟩) hkn d2
      have g3 := hC2.cell (p := ⟨db, 2, none⟩) hkr d3
      have q3 := hh2.free 2
      have k0 := cell_far (g := db) (i := 2) (j := 0) hrn (.slice (some ⟨g, 0, none⟩) (h.length + 1) cap) g0
      have k1 := cell_far (g := db) (i := 2) (j := 1) hrn (.slice (some ⟨g, 0, none⟩) (h.length + 1) cap) g1
      have k2 := cell_far (g := db) (i := 2) (j := 2) hrn (.slice (some ⟨g, 0, none⟩) (h.length + 1) cap) g2
      have HE := Lib.hid (And.intro hC2 (And.intro ho2 (And.intro hat2 hh2)))
      clear hC2 ho2 hat2 hh2 hg2
      refine hK.out _ _ ?_ (fun hHeld3 => ?_)
      · (try dsimp only)
        first | exact ⟨d0, d1, d2⟩ | exact ⟨e0, e1, e2⟩ | exact ⟨g0, g1, g2⟩ | exact ⟨k0, k1, k2⟩
      clear hK K hHeld2
      (try simp only [Act.put, List.setIfInBounds_toArray, List.set_cons_zero, List.set_cons_succ])
      refine wpAnyH_take (i := 8) (oi := ⟨some 14, _, _, _, _, _⟩) (v := ?_) rfl (by kernel_rfl) (by kernel_rfl) (by kernel_rfl) (fun _ _ _ h => h) (Or.inl ⟨by kernel_rfl, ?_⟩) (by assumption) ?_
      rotate_left
      · (intro w hSw; (try dsimp only at hSw); go_simp; (first | done | with_reducible rfl))
      (try simp only [Act.put, List.setIfInBounds_toArray, List.set_cons_zero, List.set_cons_succ])
      refine wpAnyH_take (i := 9) (oi := ⟨some 15, _, _, _, _, _⟩) (v := ?_) rfl (by kernel_rfl) (by kernel_rfl) (by kernel_rfl) (fun _ _ _ h => h) (Or.inl ⟨by kernel_rfl, ?_⟩) (by assumption) ?_
      rotate_left
      · (intro w hSw; (try dsimp only at hSw); go_simp; (first | done | with_reducible rfl))
      (try simp only [Act.put, List.setIfInBounds_toArray, List.set_cons_zero, List.set_cons_succ])
      refine wpAnyH_ready (rs := [10]) (by kernel_rfl) (by simp) ?_
      refine AllReadyH.cons rfl (fun K hK => ?_) AllReadyH.nil
      go_simp
      refine hK.out _ _ ?_ (fun hHeld4 => ?_)
      · (try dsimp only)
        first | exact ⟨d0, d1, d2⟩ | exact ⟨e0, e1, e2⟩ | exact ⟨g0, g1, g2⟩ | exact ⟨k0, k1, k2⟩
      clear hK K hHeld3
      (try simp only [Act.put, List.setIfInBounds_toArray, List.set_cons_zero, List.set_cons_succ])
      refine wpAnyH_done (by kernel_rfl) ?_ _
      have hC := Chg.set w2 ⟨db, 2, none⟩ (.slice (some ⟨g, 0, none⟩) (h.length + 1) cap)
      have hall : Chg W1 (w2.setCell ⟨db, 2, none⟩ (.slice (some ⟨g, 0, none⟩) (h.length + 1) cap)) (fun b => b = db ∨ (Value.slice A h.length c).ownBlock = some b) :=
        (HE.out.1.mono (T := fun b => b = db ∨ (Value.slice A h.length c).ownBlock = some b) (fun k _ h => .inr h)).trans hC (fun k _ h => .inl h)
      have hS : ∀ k, F k → ¬ (k = db ∨ (Value.slice A h.length c).ownBlock = some k) := fun k hk e => by
        rcases e with e | e
        · exact HR.out.1.off k hk (e ▸ HR.out.1.oD)
        · exact HR.out.1.off k hk (HR.out.1.oR k e).1
      have hraws : Raws (w2.setCell ⟨db, 2, none⟩ (.slice (some ⟨g, 0, none⟩) (h.length + 1) cap)) F (.slice (some ⟨g, 0, none⟩) (h.length + 1) cap) (h ++ [r]) := by
        refine ⟨vs ++ [.slice VA bl vc], by simp [HV.out.1], ?_, fun j x u hx hu => ?_⟩
        · rw [List.length_append, List.length_singleton, rowC_append [r] [.slice VA bl vc] HV.out.1]
          have e : rowC rawC [r] [.slice VA bl vc] = [.int .i64 (kv : Int), .string nm, .slice VA bl vc] := by
            rw [← HKN.out.1, ← HKN.out.2.1]; rfl
          rw [e]
          exact hC.owns HE.out.2.1 (fun k hk e => hgb ((show g = k from (by simpa [Value.ownBlock] using hk)).trans e))
        · by_cases hj : j < h.length
          · rw [List.getElem?_append_left hj] at hx
            rw [List.getElem?_append_left (by rw [HV.out.1]; exact hj)] at hu
            exact (HV.out.2.2 j x u hx hu).chg hall (fun _ h => h) hS
          · rw [List.getElem?_append_right (by omega)] at hx
            rw [List.getElem?_append_right (by rw [HV.out.1]; omega), HV.out.1] at hu
            have hj0 : j - h.length = 0 := by have := (List.getElem?_eq_some_iff.1 hx).1; simp at this; omega
            rw [hj0] at hx hu
            cases hx; cases hu
            have := HR.out.2.2.chg hall (fun _ h => h) hS
            rwa [HKN.out.2.2] at this
      obtain ⟨hq1, hq2⟩ := HR.out.1.raws hall (HE.out.2.2.2.set 2 _) hraws (fun b hb => by
        have e1 : g = b := by simpa [Value.ownBlock] using hb
        rw [← e1]
        refine ⟨?_, by simpa [World.setCell] using hl2⟩
        rcases HE.out.2.2.1 with h | h
        · exact .inl h
        · exact .inr (by omega))
      have hb9 := HR.out.2.2.chg hall (fun _ h => h) hS
      rw [HKN.out.2.2] at hb9
      have hx9 := hall.holds (fun e => by
          rcases e with e | e
          · exact hrn e.symm
          · exact hkn e) HX.out
      have hno9 : ¬ (O n ∨ (Value.slice (some ⟨g, 0, none⟩) (h.length + 1) cap).ownBlock = some n) := by
        intro e
        rcases e with e | e
        · exact HNO.out.1 e
        · exact hgn (by simpa [Value.ownBlock] using e)
      have ht9 := HR.out.2.1.trans hq2
      obtain ⟨W9, hW9⟩ : ∃ W9, w2.setCell ⟨db, 2, none⟩ (.slice (some ⟨g, 0, none⟩) (h.length + 1) cap) = W9 := ⟨_, rfl⟩
      rw [hW9] at hq1 ht9 hb9 hx9 ⊢
      exact hP W9 g cap ⟨hq1, ht9, hx9, hb9, hno9⟩
    refine AllReadyH.cons (o := ⟨some 12, _, _, _, _, _⟩) rfl (fun K hK => ?_) AllReadyH.nil
    go_simp
    refine hK.out _ _ ?_ (fun hHeld1 => ?_)
    · (try dsimp only)
      first | exact ⟨d0, d1, d2⟩ | exact ⟨e0, e1, e2⟩ | exact ⟨g0, g1, g2⟩ | exact ⟨k0, k1, k2⟩
    clear hK K hHeld0
    (try simp only [Act.put, List.setIfInBounds_toArray, List.set_cons_zero, List.set_cons_succ])
    refine wpAnyH_ready (rs := [4]) (by kernel_rfl) (by simp) ?_
    refine AllReadyH.cons (o := ⟨some 10, _, _, _, _, _⟩) rfl (fun K hK => ?_) AllReadyH.nil
    go_simp
    refine hK.out _ _ ?_ (fun hHeld2 => ?_)
    · (try dsimp only)
      first | exact ⟨d0, d1, d2⟩ | exact ⟨e0, e1, e2⟩ | exact ⟨g0, g1, g2⟩ | exact ⟨k0, k1, k2⟩
    clear hK K hHeld1
    (try simp only [Act.put, List.setIfInBounds_toArray, List.set_cons_zero, List.set_cons_succ])
    refine wpAnyH_ready (rs := [7]) (by kernel_rfl) (by simp) ?_
    refine AllReadyH.cons (o := ⟨some 13, _, _, _, _, _⟩) rfl (fun K hK => ?_) AllReadyH.nil
    refine step_append_lies _ (by rfl) _ _ _ (by rfl) 0 92 i0 _ 3 48 Tryz.underlying72 HZ.out.1 HZ.out.2.1 HZ.out.2.2.1 HZ.out.2.2.2 rfl (by omega) (.slice A h.length c) h.length (rowC rawC h vs) (by rfl) ((HV.out.2.1.alloc _).drew)
      ⟨W1.heap.size, 0, none⟩ 1 1 [.int .i64 (kv : Int), .string nm, .slice VA bl vc] (by rfl) (by rfl) (World.news_of_block (cs := #[.int .i64 (kv : Int), .string nm, .slice VA bl vc]) (t := 92) (fr := (0, 0)) (heap_alloc_new W1 _)) (by simp [Value.oneCell'])
      (by omega) (by unfold maxLen; omega) (by omega) (Nat.zero_le _) (W1.heap.size + 1) (by simp) ?_
    intro g cap w2 ho2 hg2 hat2 hl2
    have hC2 : Chg W1 w2 (fun b => (Value.slice A h.length c).ownBlock = some b) := (((Chg.refl W1 _).alloc _).drew).trans (Chg.grown hg2) (fun _ _ h => h.symm)
    have hgb : g ≠ db := fun e => by
      rcases hat2 with h | h
      · exact hkr (by rw [h, e])
      · omega
    have hgn : g ≠ n := fun e => by
      rcases hat2 with h | h
      · exact hkn (by rw [h, e])
      · omega
    have hh2 := hC2.holds hkr HR.out.1.hold
    have g0 := hC2.cell (p := ⟨n, 0, none⟩) hkn d0
    have g1 := hC2.cell (p := ⟨n, 1, none⟩) hkn d1
    have g2 := hC2.cell (p := ⟨n, 2, none⟩) hkn d2
    have g3 := hC2.cell (p := ⟨db, 2, none⟩) hkr d3
    have q3 := hh2.free 2
    have k0 := cell_far (g := db) (i := 2) (j := 0) hrn (.slice (some ⟨g, 0, none⟩) (h.length + 1) cap) g0
    have k1 := cell_far (g := db) (i := 2) (j := 1) hrn (.slice (some ⟨g, 0, none⟩) (h.length + 1) cap) g1
    have k2 := cell_far (g := db) (i := 2) (j := 2) hrn (.slice (some ⟨g, 0, none⟩) (h.length + 1) cap) g2
    have HE := Lib.hid (And.intro hC2 (And.intro ho2 (And.intro hat2 hh2)))
    clear hC2 ho2 hat2 hh2 hg2
    refine hK.out _ _ ?_ (fun hHeld3 => ?_)
    · (try dsimp only)
      first | exact ⟨d0, d1, d2⟩ | exact ⟨e0, e1, e2⟩ | exact ⟨g0, g1, g2⟩ | exact ⟨k0, k1, k2⟩
    clear hK K hHeld2
    (try simp only [Act.put, List.setIfInBounds_toArray, List.set_cons_zero, List.set_cons_succ])
    refine wpAnyH_take (i := 8) (oi := ⟨some 14, _, _, _, _, _⟩) (v := ?_) rfl (by kernel_rfl) (by kernel_rfl) (by kernel_rfl) (fun _ _ _ h => h) (Or.inl ⟨by kernel_rfl, ?_⟩) (by assumption) ?_
    rotate_left
    · (intro w hSw; (try dsimp only at hSw); go_simp; (first | done | with_reducible rfl))
    (try simp only [Act.put, List.setIfInBounds_toArray, List.set_cons_zero, List.set_cons_succ])
    refine wpAnyH_take (i := 9) (oi := ⟨some 15, _, _, _, _, _⟩) (v := ?_) rfl (by kernel_rfl) (by kernel_rfl) (by kernel_rfl) (fun _ _ _ h => h) (Or.inl ⟨by kernel_rfl, ?_⟩) (by assumption) ?_
    rotate_left
    · (intro w hSw; (try dsimp only at hSw); go_simp; (first | done | with_reducible rfl))
    (try simp only [Act.put, List.setIfInBounds_toArray, List.set_cons_zero, List.set_cons_succ])
    refine wpAnyH_ready (rs := [10]) (by kernel_rfl) (by simp) ?_
    refine AllReadyH.cons rfl (fun K hK => ?_) AllReadyH.nil
    go_simp
    refine hK.out _ _ ?_ (fun hHeld4 => ?_)
    · (try dsimp only)
      first | exact ⟨d0, d1, d2⟩ | exact ⟨e0, e1, e2⟩ | exact ⟨g0, g1, g2⟩ | exact ⟨k0, k1, k2⟩
    clear hK K hHeld3
    (try simp only [Act.put, List.setIfInBounds_toArray, List.set_cons_zero, List.set_cons_succ])
    refine wpAnyH_done (by kernel_rfl) ?_ _
    have hC := Chg.set w2 ⟨db, 2, none⟩ (.slice (some ⟨g, 0, none⟩) (h.length + 1) cap)
    have hall : Chg W1 (w2.setCell ⟨db, 2, none⟩ (.slice (some ⟨g, 0, none⟩) (h.length + 1) cap)) (fun b => b = db ∨ (Value.slice A h.length c).ownBlock = some b) :=
      (HE.out.1.mono (T := fun b => b = db ∨ (Value.slice A h.length c).ownBlock = some b) (fun k _ h => .inr h)).trans hC (fun k _ h => .inl h)
    have hS : ∀ k, F k → ¬ (k = db ∨ (Value.slice A h.length c).ownBlock = some k) := fun k hk e => by
      rcases e with e | e
      · exact HR.out.1.off k hk (e ▸ HR.out.1.oD)
      · exact HR.out.1.off k hk (HR.out.1.oR k e).1
    have hraws : Raws (w2.setCell ⟨db, 2, none⟩ (.slice (some ⟨g, 0, none⟩) (h.length + 1) cap)) F (.slice (some ⟨g, 0, none⟩) (h.length + 1) cap) (h ++ [r]) := by
      refine ⟨vs ++ [.slice VA bl vc], by simp [HV.out.1], ?_, fun j x u hx hu => ?_⟩
      · rw [List.length_append, List.length_singleton, rowC_append [r] [.slice VA bl vc] HV.out.1]
        have e : rowC rawC [r] [.slice VA bl vc] = [.int .i64 (kv : Int), .string nm, .slice VA bl vc] := by
          rw [← HKN.out.1, ← HKN.out.2.1]; rfl
        rw [e]
        exact hC.owns HE.out.2.1 (fun k hk e => hgb ((show g = k from (by simpa [Value.ownBlock] using hk)).trans e))
      · by_cases hj : j < h.length
        · rw [List.getElem?_append_left hj] at hx
          rw [List.getElem?_append_left (by rw [HV.out.1]; exact hj)] at hu
          exact (HV.out.2.2 j x u hx hu).chg hall (fun _ h => h) hS
        · rw [List.getElem?_append_right (by omega)] at hx
          rw [List.getElem?_append_right (by rw [HV.out.1]; omega), HV.out.1] at hu
          have hj0 : j - h.length = 0 := by have := (List.getElem?_eq_some_iff.1 hx).1; simp at this; omega
          rw [hj0] at hx hu
          cases hx; cases hu
          have := HR.out.2.2.chg hall (fun _ h => h) hS
          rwa [HKN.out.2.2] at this
    obtain ⟨hq1, hq2⟩ := HR.out.1.raws hall (HE.out.2.2.2.set 2 _) hraws (fun b hb => by
      have e1 : g = b := by simpa [Value.ownBlock] using hb
      rw [← e1]
      refine ⟨?_, by simpa [World.setCell] using hl2⟩
      rcases HE.out.2.2.1 with h | h
      · exact .inl h
      · exact .inr (by omega))
    have hb9 := HR.out.2.2.chg hall (fun _ h => h) hS
    rw [HKN.out.2.2] at hb9
    have hx9 := hall.holds (fun e => by
        rcases e with e | e
        · exact hrn e.symm
        · exact hkn e) HX.out
    have hno9 : ¬ (O n ∨ (Value.slice (some ⟨g, 0, none⟩) (h.length + 1) cap).ownBlock = some n) := by
      intro e
      rcases e with e | e
      · exact HNO.out.1 e
      · exact hgn (by simpa [Value.ownBlock] using e)
    have ht9 := HR.out.2.1.trans hq2
    obtain ⟨W9, hW9⟩ : ∃ W9, w2.setCell ⟨db, 2, none⟩ (.slice (some ⟨g, 0, none⟩) (h.length + 1) cap) = W9 := ⟨_, rfl⟩
    rw [hW9] at hq1 ht9 hb9 hx9 ⊢
    exact hP W9 g cap ⟨hq1, ht9, hx9, hb9, hno9⟩
  · intro W2 g cap HF
    obtain ⟨hr2, ht2, hx2, hb2, hno2⟩ := HF
    rw [HKN.out.1, HKN.out.2.1, HKN.out.2.2] at hx2
    clear d0 d1 d2 d3 f3 e0 e1 e2 e3 hkr hkn hrn hb1 hbx HV HR HX HSZ HZ
    have PL := place_any hr2 nm (by omega) hl HHY.out.2.2.1
    have x0 := hx2.cell 0
    have x1 := hx2.cell 1
    simp at x0 x1
    have H2 := Lib.hid (And.intro hr2 (And.intro ht2 (And.intro hx2 (And.intro hb2 hno2))))
    clear hr2 ht2 hx2 hb2 hno2
    go_wp2_with fail
    refine PL.mono ?_
    clear PL
    rintro e W3 ⟨rfl, hb3⟩
    have hr3 := H2.out.1.below hb3
    have ht3 := H2.out.2.1.trans (TurnD.below hb3)
    have hx3 := H2.out.2.2.1.below hb3 H2.out.2.2.1.lt
    have hby3 := H2.out.2.2.2.1.chg (Chg.below hb3 (fun _ => False)) (fun _ h => h) (fun _ _ h => h)
    have hno3 := H2.out.2.2.2.2
    obtain ⟨O3, hO3⟩ : ∃ O3, (fun k => O k ∨ (Value.slice (some ⟨g, 0, none⟩) (h.length + 1) cap).ownBlock = some k) = O3 := ⟨_, rfl⟩
    rw [hO3] at hr3 ht3
    have hno3' : ¬ O3 n := by rw [← hO3]; exact hno3
    have x0 := hx3.cell 0
    have x1 := hx3.cell 1
    have x2 := hx3.cell 2
    have y1 := hr3.hold.cell 1
    simp at x0 x1 x2 y1
    have H3 := Lib.hid (And.intro hr3 (And.intro ht3 (And.intro hx3 (And.intro hby3 hno3'))))
    clear H2 hb3 hr3 ht3 hx3 hby3 hno3 hno3' hO3
    obtain ⟨pl, hpl⟩ : ∃ pl, plc l nm = pl := ⟨_, rfl⟩
    obtain ⟨fb, hfb⟩ : ∃ fb, fnd l nm = fb := ⟨_, rfl⟩
    rw [hpl, hfb]
    have hple : pl ≤ l.length := by rw [← hpl]; exact plc_le l nm
    have HPF := Lib.hid (And.intro hpl hfb)
    clear hpl hfb
    have hsz3 := H3.out.1.ltO db H3.out.1.oD
    have HFIN : Hid (∀ (W' : World) (Z : Value) (l' : Fs), Chg W3 W' (fun k => k = db) → Holds W' db 74 #[.int .i64 (size : Int), Z, .slice (some ⟨g, 0, none⟩) (h.length + 1) cap] → (∃ zs : List Value, zs.length = l'.length ∧ W'.ownsRow W3.heap.size 94 2 Z l'.length (rowC fileC l' zs) ∧ ∀ (j : Nat) x u, l'[j]? = some x → zs[j]? = some u → ByR W3 F u x.2) → l' = r.appO l →
        ∃ O' F' lv' rv', RDs W' O' F' db size lv' (r.appO l) rv' (h ++ [r]) ∧ TurnD w W' O F O' F') := fun W' Z l' hc hh hz el => by
      obtain ⟨zs, z1, z2, z3⟩ := hz
      obtain ⟨_, _, _, hzb⟩ := owns_formD z2
      have hF3 : ∀ k, F k → ¬ k = db := fun k hk e => H3.out.1.off k hk (e ▸ H3.out.1.oD)
      obtain ⟨q1, q2⟩ := H3.out.1.files (lv' := Z) (l' := l') (F' := F) (hc.mono (fun k _ e => .inl e)) hh ⟨zs, z1, own_mono0 z2, fun j x u hx hu => (z3 j x u hx hu).chg hc (fun _ h => h) hF3⟩ (fun _ h => h) (fun _ h => .inl h) (fun k hk => Nat.lt_of_lt_of_le (H3.out.1.ltF k hk) hc.size)
        (fun k hk => ⟨.inr ⟨(hzb k hk).1, fun e => by have := H3.out.1.ltF k e; have := (hzb k hk).1; omega⟩, (hzb k hk).2⟩)
      rw [← el]
      exact ⟨_, _, _, _, q1, H3.out.2.1.trans q2⟩
    obtain ⟨j0, hj0, hy0, hy1, hy2⟩ := info_parts file_info
    obtain ⟨b0, hb0, hw0, hw1, hw2⟩ := info_parts byt_info
    have HJ := Lib.hid (And.intro hj0 (And.intro hy0 (And.intro hy1 hy2)))
    have HBI := Lib.hid (And.intro hb0 (And.intro hw0 (And.intro hw1 hw2)))
    clear hj0 hy0 hy1 hy2 hb0 hw0 hw1 hw2
    have q2 := H3.out.1.hold.free 1
    obtain ⟨vl, ll, lo, lt⟩ := H3.out.1.fl
    have HL := Lib.hid (And.intro ll (And.intro lo lt))
    clear ll lo lt
    by_cases k0 : kv = 0
    · have t0 : ((kv : Int) == 0) = true := by simp; omega
      have t0' : (kv : Int) = 0 := by omega
      have t0d : decide ((kv : Int) = 0) = true := decide_eq_true t0'
      have HK0 := Lib.hid k0
      clear k0
      cases fb with
      | true =>
        obtain ⟨p, hp, hpn⟩ := fnd_some HPF.out.2
        rw [HPF.out.1] at hp
        have hplt := (List.getElem?_eq_some_iff.1 hp).1
        rcases H3.out.1.fl.form with ⟨e1, e2⟩ | ⟨g5, c5, e1, hlc, hcm, hg5⟩
        · rw [e2] at hp; simp at hp
        subst e1
        have hfz := own_freeN HL.out.2.1 (pl * 2 + 1)
        have hne : g5 ≠ db := fun e => (H3.out.1.oL g5 rfl).2 e
        have hset : setO l nm [] = l.set pl (p.1, []) := by
          unfold setO
          rw [HPF.out.2, if_pos rfl, HPF.out.1, hpn]
        obtain ⟨g6, u6, eg, _, hcs6⟩ := H3.out.1.fl.at fileC_len hp
        obtain rfl : g5 = g6 := by injection eg with e; injection e
        have c1 := hcs6 1 u6 rfl
        have HP := Lib.hid (And.intro hp hset)
        clear hp hset hpn eg hcs6
        go_wp2_with fail
        (try simp only [Exit.inBlock, Exit.then])
        refine bodyPost_ret (results_none rfl _ _ _) rfl ?_
        refine ⟨rfl, ?_⟩
        have hcs := Chg.set W3 ⟨g5, pl * 2 + 1, none⟩ (.slice none 0 0)
        have hfs := Files.set H3.out.1.fl HP.out.1 (fun k hk e => H3.out.1.off k hk (e ▸ (H3.out.1.oL g5 rfl).1)) (ByR.nil W3 F)
        obtain ⟨q1, q2⟩ := H3.out.1.files (lv' := .slice (some ⟨g5, 0, none⟩) l.length c5) (l' := l.set pl (p.1, [])) (F' := F) (hcs.mono (fun k _ e => .inr (by rw [e]; rfl))) (H3.out.1.hold.far (p := ⟨g5, pl * 2 + 1, none⟩) (Ne.symm hne) _) hfs (fun _ h => h) (fun _ h => .inl h) (fun k hk => Nat.lt_of_lt_of_le (H3.out.1.ltF k hk) hcs.size)
          (fun k hk => ⟨.inl hk, Nat.lt_of_lt_of_le (H3.out.1.ltO k (H3.out.1.oL k hk).1) hcs.size⟩)
        have el : l.set pl (p.1, []) = r.appO l := by
          rw [appO_at.1 (HKN.out.1.trans HK0.out), HKN.out.2.1, HP.out.2]
        rw [← el]
        exact ⟨_, _, _, _, q1, H3.out.2.1.trans q2⟩
      | false =>
        have hset : setO l nm [] = l.take pl ++ [(nm, [])] ++ l.drop pl := by
          unfold setO
          rw [HPF.out.2, if_neg (by decide), HPF.out.1]
        have HSET := Lib.hid hset
        clear hset
        obtain ⟨u1, u2, u3, u4, u5⟩ := cut_facts (A := none) (n := 0) (c := 0) (W := W3) (F := F) (l := []) (vl := []) rfl (World.ownsRow_nil _ _ _ _) (fun j x u h => by simp at h) 0
        clear u1 u2 u3 u4 u5
        have HC := Lib.hid (Chg.refl W3 (fun _ => False))
        have HEND : Hid (∀ (w15 : World) (YA : Option Addr) (yc : Nat), Chg W3 w15 (fun _ => False) → w15.ownsRow W3.heap.size 94 2 (.slice YA (pl + 1 + (l.length - pl)) yc) (pl + 1 + (l.length - pl)) ((rowC fileC (l.take pl) (vl.take pl) ++ [.string nm, .slice none 0 0]) ++ rowC fileC (l.drop pl) (vl.drop pl)) →
            ∃ O' F' lv' rv', RDs (w15.setCell ⟨db, 1, none⟩ (.slice YA (pl + 1 + (l.length - pl)) yc)) O' F' db size lv' (r.appO l) rv' (h ++ [r]) ∧ TurnD w (w15.setCell ⟨db, 1, none⟩ (.slice YA (pl + 1 + (l.length - pl)) yc)) O F O' F') := fun w15 YA yc hc15 ho15 => by
          have hh15 := hc15.holds (fun h => h) H3.out.1.hold
          have hcs := Chg.set w15 ⟨db, 1, none⟩ (.slice YA (pl + 1 + (l.length - pl)) yc)
          have hll : (setO l nm []).length = pl + 1 + (l.length - pl) := by rw [HSET.out, List.length_append, List.length_append, List.length_take, List.length_drop, List.length_singleton, Nat.min_eq_left hple]
          refine HFIN.out _ _ (setO l nm []) ((hc15.mono (fun _ _ h => h.elim)).trans hcs (fun _ _ h => h)) (hh15.set 1 _) ⟨vl.take pl ++ [.slice none 0 0] ++ vl.drop pl, ?_, ?_, ?_⟩ ?_
          · rw [hll, List.length_append, List.length_append, List.length_take, List.length_drop, List.length_singleton, HL.out.1, Nat.min_eq_left hple]
          · rw [hll, HSET.out, rowC_append _ _ (by rw [List.length_append, List.length_append, List.length_take, List.length_take, HL.out.1]; rfl), rowC_append _ _ (by rw [List.length_take, List.length_take, HL.out.1])]
            exact hcs.owns ho15 (fun k hk e => by
              obtain ⟨_, _, _, hzb⟩ := owns_formD ho15
              have h1 := (hzb k hk).1
              simp only at e
              omega)
          · intro j x u hx hu
            rw [HSET.out] at hx
            have l1 : (l.take pl ++ [(nm, ([] : Bs))]).length = pl + 1 := by rw [List.length_append, List.length_take, Nat.min_eq_left hple]; rfl
            have l2 : (vl.take pl ++ [Value.slice none 0 0]).length = pl + 1 := by rw [List.length_append, List.length_take, HL.out.1, Nat.min_eq_left hple]; rfl
            by_cases hj : j < pl
            · rw [List.getElem?_append_left (by rw [l1]; omega), List.getElem?_append_left (by rw [List.length_take]; omega), List.getElem?_take_of_lt hj] at hx
              rw [List.getElem?_append_left (by rw [l2]; omega), List.getElem?_append_left (by rw [List.length_take, HL.out.1]; omega), List.getElem?_take_of_lt hj] at hu
              exact HL.out.2.2 _ x u hx hu
            · by_cases hj1 : j = pl
              · subst hj1
                rw [List.getElem?_append_left (by rw [l1]; omega), List.getElem?_append_right (by rw [List.length_take]; omega), List.length_take, Nat.min_eq_left hple, Nat.sub_self] at hx
                rw [List.getElem?_append_left (by rw [l2]; omega), List.getElem?_append_right (by rw [List.length_take, HL.out.1]; omega), List.length_take, HL.out.1, Nat.min_eq_left hple, Nat.sub_self] at hu
                cases hx; cases hu
                exact ByR.nil _ _
              · rw [List.getElem?_append_right (by rw [l1]; omega), l1, List.getElem?_drop] at hx
                rw [List.getElem?_append_right (by rw [l2]; omega), l2, List.getElem?_drop] at hu
                exact HL.out.2.2 _ x u hx hu
          · rw [appO_at.1 (HKN.out.1.trans HK0.out), HKN.out.2.1]
        have hsp : pl + 1 + (l.length - pl) ≤ 2000000 := by omega
        have HY1 := Lib.hid (And.intro y1 x1)
        have x1a : (W3.alloc (.cells #[.string nm, .slice none 0 0] 94)).cell? ⟨n, 1, none⟩ = some (.string nm) := by rw [World.cell?_alloc_lt _ _ _ (World.block_lt_of_cell? _ _ x1)]; exact x1
        rcases H3.out.1.fl.form with ⟨e1, e2⟩ | ⟨g5, c5, e1, hlc, hcm, hg5⟩
        case' inl =>
          have HNT : Hid (∀ W', Chg W3 W' (fun _ => False) → ∀ j u, (rowC fileC (l.take pl) (vl.take pl))[j]? = some u → ∃ ad, (none : Option Addr) = some ad ∧ W'.cell? (ad.add j) = some u) := Lib.hid (fun W' hc j u hu => by rw [e2, List.take_nil] at hu; simp [rowC] at hu)
          have HND : Hid (∀ W', Chg W3 W' (fun _ => False) → ∀ j u, (rowC fileC (l.drop pl) (vl.drop pl))[j]? = some u → ∃ ad, (none : Option Addr) = some ad ∧ W'.cell? (ad.add j) = some u) := Lib.hid (fun W' hc j u hu => by rw [e2, List.drop_nil] at hu; simp [rowC] at hu)
          have hl0 : l.length = 0 := by rw [e2]; rfl
          have hp0 : pl = 0 := by omega
          have HU : Hid ((∀ u ∈ rowC fileC (l.take pl) (vl.take pl), u.oneCell' = true) ∧ (∀ u ∈ rowC fileC (l.drop pl) (vl.drop pl), u.oneCell' = true) ∧ (rowC fileC (l.take pl) (vl.take pl)).length = pl * 2 ∧ (rowC fileC (l.drop pl) (vl.drop pl)).length = (l.length - pl) * 2) := Lib.hid (by rw [hl0, hp0, e2]; simp [rowC])
          rw [e1] at y1
          have y1a : (W3.alloc (.cells #[.string nm, .slice none 0 0] 94)).cell? ⟨db, 1, none⟩ = some (.slice none 0 0) := by rw [World.cell?_alloc_lt _ _ _ hsz3]; exact y1
          have HYY : Hid (∀ W', Chg W3 W' (fun _ => False) → W'.cell? ⟨db, 1, none⟩ = some (.slice none 0 0)) := Lib.hid (fun W' hc => hc.cell (p := ⟨db, 1, none⟩) (fun h => h) y1)
          have hplc : pl ≤ 0 := by omega
          have hlc : l.length ≤ 0 := by omega
          have hpt : (pl = 0) = True := eq_true hp0
          clear e1 hp0
          have HE2 := Lib.hid e2
          clear e2
        case' inr =>
          subst e1
          unfold maxLen at hcm
          obtain ⟨u1, u2, u3, u4, u5⟩ := cut_facts HL.out.1 HL.out.2.1 HL.out.2.2 pl
          rw [Nat.min_eq_left hple] at u4
          have hplc : pl ≤ c5 := by omega
          have HNT : Hid (∀ W', Chg W3 W' (fun _ => False) → ∀ j u, (rowC fileC (l.take pl) (vl.take pl))[j]? = some u → ∃ ad, (some ⟨g5, 0, none⟩ : Option Addr) = some ad ∧ W'.cell? (ad.add j) = some u) := Lib.hid (fun W' hc => (u1 W' hc).1)
          have HND : Hid (∀ W', Chg W3 W' (fun _ => False) → ∀ j u, (rowC fileC (l.drop pl) (vl.drop pl))[j]? = some u → ∃ ad, (if c5 = pl then some (⟨g5, 0, none⟩ : Addr) else some ⟨g5, pl * 2, none⟩) = some ad ∧ W'.cell? (ad.add j) = some u) := fun W' hc j u hu => by
            by_cases e : c5 = pl
            · rw [show l.length - pl = 0 by omega, Nat.zero_mul] at u5
              rw [List.length_eq_zero_iff.1 u5] at hu
              simp at hu
            · rw [if_neg e]
              exact (u1 W' hc).2 g5 rfl j u hu
          have HU := Lib.hid (And.intro u2 (And.intro u3 (And.intro u4 u5)))
          clear u1 u2 u3 u4 u5
          have y1a : (W3.alloc (.cells #[.string nm, .slice none 0 0] 94)).cell? ⟨db, 1, none⟩ = some (.slice (some ⟨g5, 0, none⟩) l.length c5) := by rw [World.cell?_alloc_lt _ _ _ hsz3]; exact y1
          have HYY : Hid (∀ W', Chg W3 W' (fun _ => False) → W'.cell? ⟨db, 1, none⟩ = some (.slice (some ⟨g5, 0, none⟩) l.length c5)) := Lib.hid (fun W' hc => hc.cell (p := ⟨db, 1, none⟩) (fun h => h) y1)
        all_goals
          go_wp2_with fail
          refine wp_region_held_drew (S := (fun w' => w'.cell? ⟨n, 1, none⟩ = some (.string nm))) (by kernel_rfl) ?_ (fun hHeld0 => ?_)
          · (try dsimp only)
            first | exact x1 | exact x1a | exact x7 | exact x7a | exact x12 | exact x19 | exact x22 | exact cell_far (g := db) (b := n) (i := 1) (j := 1) (show db ≠ n from fun e => H3.out.2.2.2.2 (e ▸ H3.out.1.oD)) _ x19
          refine wpAnyH_take (i := 0) (oi := ⟨some 53, _, _, _, _, _⟩) (v := ?_) rfl (by kernel_rfl) (by kernel_rfl) (by kernel_rfl) (fun _ _ _ h => h) (Or.inl ⟨by kernel_rfl, ?_⟩) (by assumption) ?_
          rotate_left
          · (intro w hSw; (try dsimp only at hSw); go_simp; (first | done | with_reducible rfl))
          (try simp only [Act.put, List.setIfInBounds_toArray, List.set_cons_zero, List.set_cons_succ])
          refine wpAnyH_take (i := 1) (oi := ⟨some 54, _, _, _, _, _⟩) (v := ?_) rfl (by kernel_rfl) (by kernel_rfl) (by kernel_rfl) (fun _ _ _ h => h) (Or.inl ⟨by kernel_rfl, ?_⟩) (by assumption) ?_
          rotate_left
          · (intro w hSw; (try dsimp only at hSw); go_simp; (first | done | with_reducible rfl))
          (try simp only [Act.put, List.setIfInBounds_toArray, List.set_cons_zero, List.set_cons_succ])
          refine wpAnyH_take (i := 2) (oi := ⟨some 55, _, _, _, _, _⟩) (v := ?_) rfl (by kernel_rfl) (by kernel_rfl) (by kernel_rfl) (fun _ _ _ h => h) (Or.inl ⟨by kernel_rfl, ?_⟩) (by assumption) ?_
          rotate_left
          · (intro w hSw; (try dsimp only at hSw); go_simp; (first | done | with_reducible rfl))
          (try simp only [Act.put, List.setIfInBounds_toArray, List.set_cons_zero, List.set_cons_succ])
          refine wpAnyH_take (i := 3) (oi := ⟨some 56, _, _, _, _, _⟩) (v := ?_) rfl (by kernel_rfl) (by kernel_rfl) (by kernel_rfl) (fun _ _ _ h => h) (Or.inl ⟨by kernel_rfl, ?_⟩) (by assumption) ?_
          rotate_left
          · (intro w hSw; (try dsimp only at hSw); go_simp; (first | done | with_reducible rfl))
          (try simp only [Act.put, List.setIfInBounds_toArray, List.set_cons_zero, List.set_cons_succ])
          refine wpAnyH_take (i := 5) (oi := ⟨some 58, _, _, _, _, _⟩) (v := ?_) rfl (by kernel_rfl) (by kernel_rfl) (by kernel_rfl) (fun _ _ _ h => h) (Or.inl ⟨by kernel_rfl, ?_⟩) (by assumption) ?_
          rotate_left
          · (intro w hSw; (try dsimp only at hSw); go_simp; (first | done | with_reducible rfl))
          (try simp only [Act.put, List.setIfInBounds_toArray, List.set_cons_zero, List.set_cons_succ])
          refine wpAnyH_take (i := 8) (oi := ⟨some 61, _, _, _, _, _⟩) (v := ?_) rfl (by kernel_rfl) (by kernel_rfl) (by kernel_rfl) (fun _ _ _ h => h) (Or.inl ⟨by kernel_rfl, ?_⟩) (by assumption) ?_
          rotate_left
          · (intro w hSw; (try dsimp only at hSw); go_simp; (first | done | with_reducible rfl))
          (try simp only [Act.put, List.setIfInBounds_toArray, List.set_cons_zero, List.set_cons_succ])
          refine wpAnyH_take (i := 9) (oi := ⟨some 62, _, _, _, _, _⟩) (v := ?_) rfl (by kernel_rfl) (by kernel_rfl) (by kernel_rfl) (fun _ _ _ h => h) (Or.inl ⟨by kernel_rfl, ?_⟩) (by assumption) ?_
          rotate_left
          · (intro w hSw; (try dsimp only at hSw); go_simp; (first | done | with_reducible rfl))
          (try simp only [Act.put, List.setIfInBounds_toArray, List.set_cons_zero, List.set_cons_succ])
          refine wpAnyH_take (i := 10) (oi := ⟨some 63, _, _, _, _, _⟩) (v := ?_) rfl (by kernel_rfl) (by kernel_rfl) (by kernel_rfl) (fun _ _ _ h => h) (Or.inl ⟨by kernel_rfl, ?_⟩) (by assumption) ?_
          rotate_left
          · (intro w hSw; (try dsimp only at hSw); go_simp; (first | done | with_reducible rfl))
          (try simp only [Act.put, List.setIfInBounds_toArray, List.set_cons_zero, List.set_cons_succ])
          refine wpAnyH_take (i := 13) (oi := ⟨some 66, _, _, _, _, _⟩) (v := ?_) rfl (by kernel_rfl) (by kernel_rfl) (by kernel_rfl) (fun _ _ _ h => h) (Or.inl ⟨by kernel_rfl, ?_⟩) (by assumption) ?_
          rotate_left
          · (intro w hSw; (try dsimp only at hSw); go_simp; (first | done | with_reducible rfl))
          (try simp only [Act.put, List.setIfInBounds_toArray, List.set_cons_zero, List.set_cons_succ])
          refine wpAnyH_take (i := 14) (oi := ⟨some 67, _, _, _, _, _⟩) (v := ?_) rfl (by kernel_rfl) (by kernel_rfl) (by kernel_rfl) (fun _ _ _ h => h) (Or.inl ⟨by kernel_rfl, ?_⟩) (by assumption) ?_
          rotate_left
          · (intro w hSw; (try dsimp only at hSw); go_simp; (first | done | with_reducible rfl))
          (try simp only [Act.put, List.setIfInBounds_toArray, List.set_cons_zero, List.set_cons_succ])
          refine wpAnyH_take (i := 15) (oi := ⟨some 68, _, _, _, _, _⟩) (v := ?_) rfl (by kernel_rfl) (by kernel_rfl) (by kernel_rfl) (fun _ _ _ h => h) (Or.inl ⟨by kernel_rfl, ?_⟩) (by assumption) ?_
          rotate_left
          · (intro w hSw; (try dsimp only at hSw); go_simp; (first | done | with_reducible rfl))
          (try simp only [Act.put, List.setIfInBounds_toArray, List.set_cons_zero, List.set_cons_succ])
          refine wpAnyH_take (i := 17) (oi := ⟨some 70, _, _, _, _, _⟩) (v := ?_) rfl (by kernel_rfl) (by kernel_rfl) (by kernel_rfl) (fun _ _ _ h => h) (Or.inl ⟨by kernel_rfl, ?_⟩) (by assumption) ?_
          rotate_left
          · (intro w hSw; (try dsimp only at hSw); go_simp; (first | done | with_reducible rfl))
          (try simp only [Act.put, List.setIfInBounds_toArray, List.set_cons_zero, List.set_cons_succ])
          refine wpAnyH_ready (rs := [4, 11, 16]) (by kernel_rfl) (by simp) ?_
          refine AllReadyH.cons (o := ⟨some 57, _, _, _, _, _⟩) rfl (fun K hK => ?_) ?_
          · skip
            go_simp
            refine hK.out _ _ ?_ (fun hHeld1 => ?_)
            · (try dsimp only)
              first | exact x1 | exact x1a | exact x7 | exact x7a | exact x12 | exact x19 | exact x22 | exact cell_far (g := db) (b := n) (i := 1) (j := 1) (show db ≠ n from fun e => H3.out.2.2.2.2 (e ▸ H3.out.1.oD)) _ x19
            clear hK K hHeld0
            (try simp only [Act.put, List.setIfInBounds_toArray, List.set_cons_zero, List.set_cons_succ])
            refine wpAnyH_take (i := 6) (oi := ⟨some 59, _, _, _, _, _⟩) (v := ?_) rfl (by kernel_rfl) (by kernel_rfl) (by kernel_rfl) (fun _ _ _ h => h) (Or.inl ⟨by kernel_rfl, ?_⟩) (by assumption) ?_
            rotate_left
            · (intro w hSw; (try dsimp only at hSw); go_simp; (first | done | with_reducible rfl))
            (try simp only [Act.put, List.setIfInBounds_toArray, List.set_cons_zero, List.set_cons_succ])
            refine wpAnyH_ready (rs := [7, 11, 16]) (by kernel_rfl) (by simp) ?_
            refine AllReadyH.cons (o := ⟨some 60, _, _, _, _, _⟩) rfl (fun K hK => ?_) ?_
            · skip
              refine step_append_all (by rfl) _ _ _ (by rfl) W3.heap.size 94 j0 _ 2 40 Tryz.underlying71 HJ.out.1 HJ.out.2.1 HJ.out.2.2.1 HJ.out.2.2.2 rfl (by omega) (.slice none 0 0) 0 [] (by rfl) (World.ownsRow_nil _ _ _ _) _ _ _ (rowC fileC (l.take pl) (vl.take pl)) (by rfl) (by have h := HU.out.2.2.1; omega) (by first | exact HNT.out _ HC.out | exact HNT.out _ HC.out.drew | exact HNT.out _ (HC.out.alloc _) | exact HNT.out _ (HC.out.alloc _).drew) HU.out.1 pl (by omega) (rowC fileC (l.take pl) (vl.take pl)) (List.nil_append _) (by unfold maxLen; omega) (by omega) (by first | exact HC.out.size | exact HC.out.drew.size | exact (HC.out.alloc _).size | exact (HC.out.alloc _).drew.size) ?_
              intro XA xc w7 ho7 hg7 hat7
              try have HB7 : Hid (Holds w7 W3.heap.size 94 #[.string nm, .slice none 0 0]) := Lib.hid (((Chg.grown hg7).mono (T := fun _ => False) (fun _ _ h => by cases h)).holds (fun h => h) (Holds.new W3 _ _))
              replace HC : Hid (Chg W3 w7 (fun _ => False)) := by
                first
                | exact HC.out.trans ((Chg.grown hg7).mono (fun _ _ h => by cases h)) (fun _ _ h => h)
                | exact HC.out.drew.trans ((Chg.grown hg7).mono (fun _ _ h => by cases h)) (fun _ _ h => h)
                | exact (HC.out.alloc _).trans ((Chg.grown hg7).mono (fun _ _ h => by cases h)) (fun _ _ h => h)
                | exact (HC.out.alloc _).drew.trans ((Chg.grown hg7).mono (fun _ _ h => by cases h)) (fun _ _ h => h)
              have y7 := HYY.out _ HC.out
              have x7 := HC.out.cell (p := ⟨n, 1, none⟩) (fun h => h) HY1.out.2
              have y7a := HYY.out _ (HC.out.alloc (.cells #[.string nm, .slice none 0 0] 94))
              have x7a := (HC.out.alloc (.cells #[.string nm, .slice none 0 0] 94)).cell (p := ⟨n, 1, none⟩) (fun h => h) HY1.out.2
              have HX7 := Lib.hid ho7
              clear ho7 hg7 hat7
              refine hK.out _ _ ?_ (fun hHeld2 => ?_)
              · (try dsimp only)
                first | exact x1 | exact x1a | exact x7 | exact x7a | exact x12 | exact x19 | exact x22 | exact cell_far (g := db) (b := n) (i := 1) (j := 1) (show db ≠ n from fun e => H3.out.2.2.2.2 (e ▸ H3.out.1.oD)) _ x19
              clear hK K hHeld1
              (try simp only [Act.put, List.setIfInBounds_toArray, List.set_cons_zero, List.set_cons_succ])
              refine wpAnyH_ready (rs := [11, 16]) (by kernel_rfl) (by simp) ?_
              refine AllReadyH.cons (o := ⟨some 64, _, _, _, _, _⟩) rfl (fun K hK => ?_) ?_
              · skip
                go_simp
                refine hK.out _ _ ?_ (fun hHeld3 => ?_)
                · (try dsimp only)
                  first | exact x1 | exact x1a | exact x7 | exact x7a | exact x12 | exact x19 | exact x22 | exact cell_far (g := db) (b := n) (i := 1) (j := 1) (show db ≠ n from fun e => H3.out.2.2.2.2 (e ▸ H3.out.1.oD)) _ x19
                clear hK K hHeld2
                (try simp only [Act.put, List.setIfInBounds_toArray, List.set_cons_zero, List.set_cons_succ])
                refine wpAnyH_ready (rs := [12, 16]) (by kernel_rfl) (by simp) ?_
                refine AllReadyH.cons (o := ⟨some 65, _, _, _, _, _⟩) rfl (fun K hK => ?_) ?_
                · skip
                  refine step_append_all (by rfl) _ _ _ (by rfl) W3.heap.size 94 j0 _ 2 40 Tryz.underlying71 HJ.out.1 HJ.out.2.1 HJ.out.2.2.1 HJ.out.2.2.2 rfl (by omega) (.slice XA pl xc) pl (rowC fileC (l.take pl) (vl.take pl)) (by rfl) (by first | exact HX7.out | exact HX7.out.drew | exact HX7.out.alloc _ | exact (HX7.out.alloc _).drew) _ _ _ [.string nm, .slice none 0 0] (by rfl) (by rfl) (by first | exact fun j u hu => ⟨_, rfl, World.news_of_block (cs := #[.string nm, .slice none 0 0]) (t := 94) (fr := (0, 0)) (heap_alloc_new w7 _) j u hu⟩ | exact fun j u hu => ⟨_, rfl, World.news_of_block (cs := #[.string nm, .slice none 0 0]) (t := 94) (fr := (0, 0)) HB7.out j u hu⟩) (by simp [Value.oneCell']) (pl + 1) rfl (rowC fileC (l.take pl) (vl.take pl) ++ [.string nm, .slice none 0 0]) rfl (by unfold maxLen; omega) (by omega) (by first | exact HC.out.size | exact HC.out.drew.size | exact (HC.out.alloc _).size | exact (HC.out.alloc _).drew.size) ?_
                  intro YA yc w12 ho12 hg12 hat12
                  replace HC : Hid (Chg W3 w12 (fun _ => False)) := by
                    obtain ⟨_, _, _, hzb⟩ := owns_formD HX7.out
                    first
                    | exact HC.out.trans (Chg.grown hg12) (fun k hk h => by have := (hzb k h.symm).1; omega)
                    | exact HC.out.drew.trans (Chg.grown hg12) (fun k hk h => by have := (hzb k h.symm).1; omega)
                    | exact (HC.out.alloc _).trans (Chg.grown hg12) (fun k hk h => by have := (hzb k h.symm).1; omega)
                    | exact (HC.out.alloc _).drew.trans (Chg.grown hg12) (fun k hk h => by have := (hzb k h.symm).1; omega)
                  have y12 := HYY.out _ HC.out
                  have x12 := HC.out.cell (p := ⟨n, 1, none⟩) (fun h => h) HY1.out.2
                  have HX12 := Lib.hid ho12
                  clear ho12 hg12 hat12
                  refine hK.out _ _ ?_ (fun hHeld4 => ?_)
                  · (try dsimp only)
                    first | exact x1 | exact x1a | exact x7 | exact x7a | exact x12 | exact x19 | exact x22 | exact cell_far (g := db) (b := n) (i := 1) (j := 1) (show db ≠ n from fun e => H3.out.2.2.2.2 (e ▸ H3.out.1.oD)) _ x19
                  clear hK K hHeld3
                  (try simp only [Act.put, List.setIfInBounds_toArray, List.set_cons_zero, List.set_cons_succ])
                  refine wpAnyH_ready (rs := [16]) (by kernel_rfl) (by simp) ?_
                  refine AllReadyH.cons (o := ⟨some 69, _, _, _, _, _⟩) rfl (fun K hK => ?_) AllReadyH.nil
                  go_simp
                  refine hK.out _ _ ?_ (fun hHeld5 => ?_)
                  · (try dsimp only)
                    first | exact x1 | exact x1a | exact x7 | exact x7a | exact x12 | exact x19 | exact x22 | exact cell_far (g := db) (b := n) (i := 1) (j := 1) (show db ≠ n from fun e => H3.out.2.2.2.2 (e ▸ H3.out.1.oD)) _ x19
                  clear hK K hHeld4
                  (try simp only [Act.put, List.setIfInBounds_toArray, List.set_cons_zero, List.set_cons_succ])
                  refine wpAnyH_take (i := 18) (oi := ⟨some 71, _, _, _, _, _⟩) (v := ?_) rfl (by kernel_rfl) (by kernel_rfl) (by kernel_rfl) (fun _ _ _ h => h) (Or.inl ⟨by kernel_rfl, ?_⟩) (by assumption) ?_
                  rotate_left
                  · (intro w hSw; (try dsimp only at hSw); go_simp; (first | done | with_reducible rfl))
                  (try simp only [Act.put, List.setIfInBounds_toArray, List.set_cons_zero, List.set_cons_succ])
                  refine wpAnyH_ready (rs := [19]) (by kernel_rfl) (by simp) ?_
                  refine AllReadyH.cons (o := ⟨some 72, _, _, _, _, _⟩) rfl (fun K hK => ?_) AllReadyH.nil
                  refine step_append_all (by rfl) _ _ _ (by rfl) W3.heap.size 94 j0 _ 2 40 Tryz.underlying71 HJ.out.1 HJ.out.2.1 HJ.out.2.2.1 HJ.out.2.2.2 rfl (by omega) (.slice YA (pl + 1) yc) (pl + 1) (rowC fileC (l.take pl) (vl.take pl) ++ [.string nm, .slice none 0 0]) (by rfl) (by first | exact HX12.out | exact HX12.out.drew) _ _ _ (rowC fileC (l.drop pl) (vl.drop pl)) (by rfl) (by have h := HU.out.2.2.2; omega) (by first | exact HND.out _ HC.out | exact HND.out _ HC.out.drew) HU.out.2.1 (pl + 1 + (l.length - pl)) (by omega) ((rowC fileC (l.take pl) (vl.take pl) ++ [.string nm, .slice none 0 0]) ++ rowC fileC (l.drop pl) (vl.drop pl)) rfl (by unfold maxLen; omega) (by omega) (by first | exact HC.out.size | exact HC.out.drew.size) ?_
                  intro ZA zc w19 ho19 hg19 hat19
                  replace HC : Hid (Chg W3 w19 (fun _ => False)) := by
                    obtain ⟨_, _, _, hzb⟩ := owns_formD HX12.out
                    first
                    | exact HC.out.trans (Chg.grown hg19) (fun k hk h => by have := (hzb k h.symm).1; omega)
                    | exact HC.out.drew.trans (Chg.grown hg19) (fun k hk h => by have := (hzb k h.symm).1; omega)
                  have y19 := HYY.out _ HC.out
                  have x19 := HC.out.cell (p := ⟨n, 1, none⟩) (fun h => h) HY1.out.2
                  have q19 := (HC.out.holds (fun h => h) H3.out.1.hold).free 1
                  have x22 := cell_far (g := db) (b := n) (i := 1) (j := 1) (show db ≠ n from fun e => H3.out.2.2.2.2 (e ▸ H3.out.1.oD)) (.slice ZA (pl + 1 + (l.length - pl)) zc) x19
                  have HX19 := Lib.hid ho19
                  clear ho19 hg19 hat19
                  refine hK.out _ _ ?_ (fun hHeld6 => ?_)
                  · (try dsimp only)
                    first | exact x1 | exact x1a | exact x7 | exact x7a | exact x12 | exact x19 | exact x22 | exact cell_far (g := db) (b := n) (i := 1) (j := 1) (show db ≠ n from fun e => H3.out.2.2.2.2 (e ▸ H3.out.1.oD)) _ x19
                  clear hK K hHeld5
                  (try simp only [Act.put, List.setIfInBounds_toArray, List.set_cons_zero, List.set_cons_succ])
                  refine wpAnyH_take (i := 20) (oi := ⟨some 73, _, _, _, _, _⟩) (v := ?_) rfl (by kernel_rfl) (by kernel_rfl) (by kernel_rfl) (fun _ _ _ h => h) (Or.inl ⟨by kernel_rfl, ?_⟩) (by assumption) ?_
                  rotate_left
                  · (intro w hSw; (try dsimp only at hSw); go_simp; (first | done | with_reducible rfl))
                  (try simp only [Act.put, List.setIfInBounds_toArray, List.set_cons_zero, List.set_cons_succ])
                  refine wpAnyH_take (i := 21) (oi := ⟨some 74, _, _, _, _, _⟩) (v := ?_) rfl (by kernel_rfl) (by kernel_rfl) (by kernel_rfl) (fun _ _ _ h => h) (Or.inl ⟨by kernel_rfl, ?_⟩) (by assumption) ?_
                  rotate_left
                  · (intro w hSw; (try dsimp only at hSw); go_simp; (first | done | with_reducible rfl))
                  (try simp only [Act.put, List.setIfInBounds_toArray, List.set_cons_zero, List.set_cons_succ])
                  refine wpAnyH_ready (rs := [22]) (by kernel_rfl) (by simp) ?_
                  refine AllReadyH.cons rfl (fun K hK => ?_) AllReadyH.nil
                  go_simp
                  refine hK.out _ _ ?_ (fun hHeld7 => ?_)
                  · (try dsimp only)
                    first | exact x1 | exact x1a | exact x7 | exact x7a | exact x12 | exact x19 | exact x22 | exact cell_far (g := db) (b := n) (i := 1) (j := 1) (show db ≠ n from fun e => H3.out.2.2.2.2 (e ▸ H3.out.1.oD)) _ x19
                  clear hK K hHeld6
                  (try simp only [Act.put, List.setIfInBounds_toArray, List.set_cons_zero, List.set_cons_succ])
                  refine wpAnyH_done (by kernel_rfl) ?_ _
                  go_wp2
                  all_goals
                    (try simp only [Exit.inBlock, Exit.then])
                    first
                    | go_end0
                    | refine bodyPost_ret (results_none rfl _ _ _) rfl ?_
                    obtain ⟨z1, z2, z3, z4, z5, z6⟩ := HEND.out _ _ _ HC.out HX19.out
                    first | exact ⟨rfl, z1, z2, z3, z4, z5, z6⟩ | exact ⟨rfl, z1, z2, ⟨z3, z4, z5⟩, z6⟩ | (have hq0 : pl + 1 + (l.length - pl) = pl + 1 := (by omega); rw [hq0] at z5 z6; exact ⟨rfl, z1, z2, z3, z4, z5, z6⟩)
                refine AllReadyH.cons (o := ⟨some 69, _, _, _, _, _⟩) rfl (fun K hK => ?_) AllReadyH.nil
                go_simp
                refine hK.out _ _ ?_ (fun hHeld4 => ?_)
                · (try dsimp only)
                  first | exact x1 | exact x1a | exact x7 | exact x7a | exact x12 | exact x19 | exact x22 | exact cell_far (g := db) (b := n) (i := 1) (j := 1) (show db ≠ n from fun e => H3.out.2.2.2.2 (e ▸ H3.out.1.oD)) _ x19
                clear hK K hHeld3
                (try simp only [Act.put, List.setIfInBounds_toArray, List.set_cons_zero, List.set_cons_succ])
                refine wpAnyH_take (i := 18) (oi := ⟨some 71, _, _, _, _, _⟩) (v := ?_) rfl (by kernel_rfl) (by kernel_rfl) (by kernel_rfl) (fun _ _ _ h => h) (Or.inl ⟨by kernel_rfl, ?_⟩) (by assumption) ?_
                rotate_left
                · (intro w hSw; (try dsimp only at hSw); go_simp; (first | done | with_reducible rfl))
                (try simp only [Act.put, List.setIfInBounds_toArray, List.set_cons_zero, List.set_cons_succ])
                refine wpAnyH_ready (rs := [12]) (by kernel_rfl) (by simp) ?_
                refine AllReadyH.cons (o := ⟨some 65, _, _, _, _, _⟩) rfl (fun K hK => ?_) AllReadyH.nil
                refine step_append_all (by rfl) _ _ _ (by rfl) W3.heap.size 94 j0 _ 2 40 Tryz.underlying71 HJ.out.1 HJ.out.2.1 HJ.out.2.2.1 HJ.out.2.2.2 rfl (by omega) (.slice XA pl xc) pl (rowC fileC (l.take pl) (vl.take pl)) (by rfl) (by first | exact HX7.out | exact HX7.out.drew | exact HX7.out.alloc _ | exact (HX7.out.alloc _).drew) _ _ _ [.string nm, .slice none 0 0] (by rfl) (by rfl) (by first | exact fun j u hu => ⟨_, rfl, World.news_of_block (cs := #[.string nm, .slice none 0 0]) (t := 94) (fr := (0, 0)) (heap_alloc_new w7 _) j u hu⟩ | exact fun j u hu => ⟨_, rfl, World.news_of_block (cs := #[.string nm, .slice none 0 0]) (t := 94) (fr := (0, 0)) HB7.out j u hu⟩) (by simp [Value.oneCell']) (pl + 1) rfl (rowC fileC (l.take pl) (vl.take pl) ++ [.string nm, .slice none 0 0]) rfl (by unfold maxLen; omega) (by omega) (by first | exact HC.out.size | exact HC.out.drew.size | exact (HC.out.alloc _).size | exact (HC.out.alloc _).drew.size) ?_
                intro YA yc w12 ho12 hg12 hat12
                replace HC : Hid (Chg W3 w12 (fun _ => False)) := by
                  obtain ⟨_, _, _, hzb⟩ := owns_formD HX7.out
                  first
                  | exact HC.out.trans (Chg.grown hg12) (fun k hk h => by have := (hzb k h.symm).1; omega)
                  | exact HC.out.drew.trans (Chg.grown hg12) (fun k hk h => by have := (hzb k h.symm).1; omega)
                  | exact (HC.out.alloc _).trans (Chg.grown hg12) (fun k hk h => by have := (hzb k h.symm).1; omega)
                  | exact (HC.out.alloc _).drew.trans (Chg.grown hg12) (fun k hk h => by have := (hzb k h.symm).1; omega)
                have y12 := HYY.out _ HC.out
                have x12 := HC.out.cell (p := ⟨n, 1, none⟩) (fun h => h) HY1.out.2
                have HX12 := Lib.hid ho12
                clear ho12 hg12 hat12
                refine hK.out _ _ ?_ (fun hHeld5 => ?_)
                · (try dsimp only)
                  first | exact x1 | exact x1a | exact x7 | exact x7a | exact x12 | exact x19 | exact x22 | exact cell_far (g := db) (b := n) (i := 1) (j := 1) (show db ≠ n from fun e => H3.out.2.2.2.2 (e ▸ H3.out.1.oD)) _ x19
                clear hK K hHeld4
                (try simp only [Act.put, List.setIfInBounds_toArray, List.set_cons_zero, List.set_cons_succ])
                refine wpAnyH_ready (rs := [19]) (by kernel_rfl) (by simp) ?_
                refine AllReadyH.cons (o := ⟨some 72, _, _, _, _, _⟩) rfl (fun K hK => ?_) AllReadyH.nil
                refine step_append_all (by rfl) _ _ _ (by rfl) W3.heap.size 94 j0 _ 2 40 Tryz.underlying71 HJ.out.1 HJ.out.2.1 HJ.out.2.2.1 HJ.out.2.2.2 rfl (by omega) (.slice YA (pl + 1) yc) (pl + 1) (rowC fileC (l.take pl) (vl.take pl) ++ [.string nm, .slice none 0 0]) (by rfl) (by first | exact HX12.out | exact HX12.out.drew) _ _ _ (rowC fileC (l.drop pl) (vl.drop pl)) (by rfl) (by have h := HU.out.2.2.2; omega) (by first | exact HND.out _ HC.out | exact HND.out _ HC.out.drew) HU.out.2.1 (pl + 1 + (l.length - pl)) (by omega) ((rowC fileC (l.take pl) (vl.take pl) ++ [.string nm, .slice none 0 0]) ++ rowC fileC (l.drop pl) (vl.drop pl)) rfl (by unfold maxLen; omega) (by omega) (by first | exact HC.out.size | exact HC.out.drew.size) ?_
                intro ZA zc w19 ho19 hg19 hat19
                replace HC : Hid (Chg W3 w19 (fun _ => False)) := by
                  obtain ⟨_, _, _, hzb⟩ := owns_formD HX12.out
                  first
                  | exact HC.out.trans (Chg.grown hg19) (fun k hk h => by have := (hzb k h.symm).1; omega)
                  | exact HC.out.drew.trans (Chg.grown hg19) (fun k hk h => by have := (hzb k h.symm).1; omega)
                have y19 := HYY.out _ HC.out
                have x19 := HC.out.cell (p := ⟨n, 1, none⟩) (fun h => h) HY1.out.2
                have q19 := (HC.out.holds (fun h => h) H3.out.1.hold).free 1
                have x22 := cell_far (g := db) (b := n) (i := 1) (j := 1) (show db ≠ n from fun e => H3.out.2.2.2.2 (e ▸ H3.out.1.oD)) (.slice ZA (pl + 1 + (l.length - pl)) zc) x19
                have HX19 := Lib.hid ho19
                clear ho19 hg19 hat19
                refine hK.out _ _ ?_ (fun hHeld6 => ?_)
                · (try dsimp only)
                  first | exact x1 | exact x1a | exact x7 | exact x7a | exact x12 | exact x19 | exact x22 | exact cell_far (g := db) (b := n) (i := 1) (j := 1) (show db ≠ n from fun e => H3.out.2.2.2.2 (e ▸ H3.out.1.oD)) _ x19
                clear hK K hHeld5
                (try simp only [Act.put, List.setIfInBounds_toArray, List.set_cons_zero, List.set_cons_succ])
                refine wpAnyH_take (i := 20) (oi := ⟨some 73, _, _, _, _, _⟩) (v := ?_) rfl (by kernel_rfl) (by kernel_rfl) (by kernel_rfl) (fun _ _ _ h => h) (Or.inl ⟨by kernel_rfl, ?_⟩) (by assumption) ?_
                rotate_left
                · (intro w hSw; (try dsimp only at hSw); go_simp; (first | done | with_reducible rfl))
                (try simp only [Act.put, List.setIfInBounds_toArray, List.set_cons_zero, List.set_cons_succ])
                refine wpAnyH_take (i := 21) (oi := ⟨some 74, _, _, _, _, _⟩) (v := ?_) rfl (by kernel_rfl) (by kernel_rfl) (by kernel_rfl) (fun _ _ _ h => h) (Or.inl ⟨by kernel_rfl, ?_⟩) (by assumption) ?_
                rotate_left
                · (intro w hSw; (try dsimp only at hSw); go_simp; (first | done | with_reducible rfl))
                (try simp only [Act.put, List.setIfInBounds_toArray, List.set_cons_zero, List.set_cons_succ])
                refine wpAnyH_ready (rs := [22]) (by kernel_rfl) (by simp) ?_
                refine AllReadyH.cons rfl (fun K hK => ?_) AllReadyH.nil
                go_simp
                refine hK.out _ _ ?_ (fun hHeld7 => ?_)
                · (try dsimp only)
                  first | exact x1 | exact x1a | exact x7 | exact x7a | exact x12 | exact x19 | exact x22 | exact cell_far (g := db) (b := n) (i := 1) (j := 1) (show db ≠ n from fun e => H3.out.2.2.2.2 (e ▸ H3.out.1.oD)) _ x19
                clear hK K hHeld6
                (try simp only [Act.put, List.setIfInBounds_toArray, List.set_cons_zero, List.set_cons_succ])
                refine wpAnyH_done (by kernel_rfl) ?_ _
                go_wp2
                all_goals
                  (try simp only [Exit.inBlock, Exit.then])
                  first
                  | go_end0
                  | refine bodyPost_ret (results_none rfl _ _ _) rfl ?_
                  obtain ⟨z1, z2, z3, z4, z5, z6⟩ := HEND.out _ _ _ HC.out HX19.out
                  first | exact ⟨rfl, z1, z2, z3, z4, z5, z6⟩ | exact ⟨rfl, z1, z2, ⟨z3, z4, z5⟩, z6⟩ | (have hq0 : pl + 1 + (l.length - pl) = pl + 1 := (by omega); rw [hq0] at z5 z6; exact ⟨rfl, z1, z2, z3, z4, z5, z6⟩)
              refine AllReadyH.cons (o := ⟨some 69, _, _, _, _, _⟩) rfl (fun K hK => ?_) AllReadyH.nil
              go_simp
              refine hK.out _ _ ?_ (fun hHeld3 => ?_)
              · (try dsimp only)
                first | exact x1 | exact x1a | exact x7 | exact x7a | exact x12 | exact x19 | exact x22 | exact cell_far (g := db) (b := n) (i := 1) (j := 1) (show db ≠ n from fun e => H3.out.2.2.2.2 (e ▸ H3.out.1.oD)) _ x19
              clear hK K hHeld2
              (try simp only [Act.put, List.setIfInBounds_toArray, List.set_cons_zero, List.set_cons_succ])
              refine wpAnyH_take (i := 18) (oi := ⟨some 71, _, _, _, _, _⟩) (v := ?_) rfl (by kernel_rfl) (by kernel_rfl) (by kernel_rfl) (fun _ _ _ h => h) (Or.inl ⟨by kernel_rfl, ?_⟩) (by assumption) ?_
              rotate_left
              · (intro w hSw; (try dsimp only at hSw); go_simp; (first | done | with_reducible rfl))
              (try simp only [Act.put, List.setIfInBounds_toArray, List.set_cons_zero, List.set_cons_succ])
              refine wpAnyH_ready (rs := [11]) (by kernel_rfl) (by simp) ?_
              refine AllReadyH.cons (o := ⟨some 64, _, _, _, _, _⟩) rfl (fun K hK => ?_) AllReadyH.nil
              go_simp
              refine hK.out _ _ ?_ (fun hHeld4 => ?_)
              · (try dsimp only)
                first | exact x1 | exact x1a | exact x7 | exact x7a | exact x12 | exact x19 | exact x22 | exact cell_far (g := db) (b := n) (i := 1) (j := 1) (show db ≠ n from fun e => H3.out.2.2.2.2 (e ▸ H3.out.1.oD)) _ x19
              clear hK K hHeld3
              (try simp only [Act.put, List.setIfInBounds_toArray, List.set_cons_zero, List.set_cons_succ])
              refine wpAnyH_ready (rs := [12]) (by kernel_rfl) (by simp) ?_
              refine AllReadyH.cons (o := ⟨some 65, _, _, _, _, _⟩) rfl (fun K hK => ?_) AllReadyH.nil
              refine step_append_all (by rfl) _ _ _ (by rfl) W3.heap.size 94 j0 _ 2 40 Tryz.underlying71 HJ.out.1 HJ.out.2.1 HJ.out.2.2.1 HJ.out.2.2.2 rfl (by omega) (.slice XA pl xc) pl (rowC fileC (l.take pl) (vl.take pl)) (by rfl) (by first | exact HX7.out | exact HX7.out.drew | exact HX7.out.alloc _ | exact (HX7.out.alloc _).drew) _ _ _ [.string nm, .slice none 0 0] (by rfl) (by rfl) (by first | exact fun j u hu => ⟨_, rfl, World.news_of_block (cs := #[.string nm, .slice none 0 0]) (t := 94) (fr := (0, 0)) (heap_alloc_new w7 _) j u hu⟩ | exact fun j u hu => ⟨_, rfl, World.news_of_block (cs := #[.string nm, .slice none 0 0]) (t := 94) (fr := (0, 0)) HB7.out j u hu⟩) (by simp [Value.oneCell']) (pl + 1) rfl (rowC fileC (l.take pl) (vl.take pl) ++ [.string nm, .slice none 0 0]) rfl (by unfold maxLen; omega) (by omega) (by first | exact HC.out.size | exact HC.out.drew.size | exact (HC.out.alloc _).size | exact (HC.out.alloc _).drew.size) ?_
              intro YA yc w12 ho12 hg12 hat12
              replace HC : Hid (Chg W3 w12 (fun _ => False)) := by
                obtain ⟨_, _, _, hzb⟩ := owns_formD HX7.out
                first
                | exact HC.out.trans (Chg.grown hg12) (fun k hk h => by have := (hzb k h.symm).1; omega)
                | exact HC.out.drew.trans (Chg.grown hg12) (fun k hk h => by have := (hzb k h.symm).1; omega)
                | exact (HC.out.alloc _).trans (Chg.grown hg12) (fun k hk h => by have := (hzb k h.symm).1; omega)
                | exact (HC.out.alloc _).drew.trans (Chg.grown hg12) (fun k hk h => by have := (hzb k h.symm).1; omega)
              have y12 := HYY.out _ HC.out
              have x12 := HC.out.cell (p := ⟨n, 1, none⟩) (fun h => h) HY1.out.2
              have HX12 := Lib.hid ho12
              clear ho12 hg12 hat12
              refine hK.out _ _ ?_ (fun hHeld5 => ?_)
              · (try dsimp only)
                first | exact x1 | exact x1a | exact x7 | exact x7a | exact x12 | exact x19 | exact x22 | exact cell_far (g := db) (b := n) (i := 1) (j := 1) (show db ≠ n from fun e => H3.out.2.2.2.2 (e ▸ H3.out.1.oD)) _ x19
              clear hK K hHeld4
              (try simp only [Act.put, List.setIfInBounds_toArray, List.set_cons_zero, List.set_cons_succ])
              refine wpAnyH_ready (rs := [19]) (by kernel_rfl) (by simp) ?_
              refine AllReadyH.cons (o := ⟨some 72, _, _, _, _, _⟩) rfl (fun K hK => ?_) AllReadyH.nil
              refine step_append_all (by rfl) _ _ _ (by rfl) W3.heap.size 94 j0 _ 2 40 Tryz.underlying71 HJ.out.1 HJ.out.2.1 HJ.out.2.2.1 HJ.out.2.2.2 rfl (by omega) (.slice YA (pl + 1) yc) (pl + 1) (rowC fileC (l.take pl) (vl.take pl) ++ [.string nm, .slice none 0 0]) (by rfl) (by first | exact HX12.out | exact HX12.out.drew) _ _ _ (rowC fileC (l.drop pl) (vl.drop pl)) (by rfl) (by have h := HU.out.2.2.2; omega) (by first | exact HND.out _ HC.out | exact HND.out _ HC.out.drew) HU.out.2.1 (pl + 1 + (l.length - pl)) (by omega) ((rowC fileC (l.take pl) (vl.take pl) ++ [.string nm, .slice none 0 0]) ++ rowC fileC (l.drop pl) (vl.drop pl)) rfl (by unfold maxLen; omega) (by omega) (by first | exact HC.out.size | exact HC.out.drew.size) ?_
              intro ZA zc w19 ho19 hg19 hat19
              replace HC : Hid (Chg W3 w19 (fun _ => False)) := by
                obtain ⟨_, _, _, hzb⟩ := owns_formD HX12.out
                first
                | exact HC.out.trans (Chg.grown hg19) (fun k hk h => by have := (hzb k h.symm).1; omega)
                | exact HC.out.drew.trans (Chg.grown hg19) (fun k hk h => by have := (hzb k h.symm).1; omega)
              have y19 := HYY.out _ HC.out
              have x19 := HC.out.cell (p := ⟨n, 1, none⟩) (fun h => h) HY1.out.2
              have q19 := (HC.out.holds (fun h => h) H3.out.1.hold).free 1
              have x22 := cell_far (g := db) (b := n) (i := 1) (j := 1) (show db ≠ n from fun e => H3.out.2.2.2.2 (e ▸ H3.out.1.oD)) (.slice ZA (pl + 1 + (l.length - pl)) zc) x19
              have HX19 := Lib.hid ho19
              clear ho19 hg19 hat19
              refine hK.out _ _ ?_ (fun hHeld6 => ?_)
              · (try dsimp only)
                first | exact x1 | exact x1a | exact x7 | exact x7a | exact x12 | exact x19 | exact x22 | exact cell_far (g := db) (b := n) (i := 1) (j := 1) (show db ≠ n from fun e => H3.out.2.2.2.2 (e ▸ H3.out.1.oD)) _ x19
              clear hK K hHeld5
              (try simp only [Act.put, List.setIfInBounds_toArray, List.set_cons_zero, List.set_cons_succ])
              refine wpAnyH_take (i := 20) (oi := ⟨some 73, _, _, _, _, _⟩) (v := ?_) rfl (by kernel_rfl) (by kernel_rfl) (by kernel_rfl) (fun _ _ _ h => h) (Or.inl ⟨by kernel_rfl, ?_⟩) (by assumption) ?_
              rotate_left
              · (intro w hSw; (try dsimp only at hSw); go_simp; (first | done | with_reducible rfl))
              (try simp only [Act.put, List.setIfInBounds_toArray, List.set_cons_zero, List.set_cons_succ])
              refine wpAnyH_take (i := 21) (oi := ⟨some 74, _, _, _, _, _⟩) (v := ?_) rfl (by kernel_rfl) (by kernel_rfl) (by kernel_rfl) (fun _ _ _ h => h) (Or.inl ⟨by kernel_rfl, ?_⟩) (by assumption) ?_
              rotate_left
              · (intro w hSw; (try dsimp only at hSw); go_simp; (first | done | with_reducible rfl))
              (try simp only [Act.put, List.setIfInBounds_toArray, List.set_cons_zero, List.set_cons_succ])
              refine wpAnyH_ready (rs := [22]) (by kernel_rfl) (by simp) ?_
              refine AllReadyH.cons rfl (fun K hK => ?_) AllReadyH.nil
              go_simp
              refine hK.out _ _ ?_ (fun hHeld7 => ?_)
              · (try dsimp only)
                first | exact x1 | exact x1a | exact x7 | exact x7a | exact x12 | exact x19 | exact x22 | exact cell_far (g := db) (b := n) (i := 1) (j := 1) (show db ≠ n from fun e => H3.out.2.2.2.2 (e ▸ H3.out.1.oD)) _ x19
              clear hK K hHeld6
              (try simp only [Act.put, List.setIfInBounds_toArray, List.set_cons_zero, List.set_cons_succ])
              refine wpAnyH_done (by kernel_rfl) ?_ _
              go_wp2
              all_goals
                (try simp only [Exit.inBlock, Exit.then])
                first
                | go_end0
                | refine bodyPost_ret (results_none rfl _ _ _) rfl ?_
                obtain ⟨z1, z2, z3, z4, z5, z6⟩ := HEND.out _ _ _ HC.out HX19.out
                first | exact ⟨rfl, z1, z2, z3, z4, z5, z6⟩ | exact ⟨rfl, z1, z2, ⟨z3, z4, z5⟩, z6⟩ | (have hq0 : pl + 1 + (l.length - pl) = pl + 1 := (by omega); rw [hq0] at z5 z6; exact ⟨rfl, z1, z2, z3, z4, z5, z6⟩)
            refine AllReadyH.cons (o := ⟨some 64, _, _, _, _, _⟩) rfl (fun K hK => ?_) ?_
            · skip
              go_simp
              refine hK.out _ _ ?_ (fun hHeld2 => ?_)
              · (try dsimp only)
                first | exact x1 | exact x1a | exact x7 | exact x7a | exact x12 | exact x19 | exact x22 | exact cell_far (g := db) (b := n) (i := 1) (j := 1) (show db ≠ n from fun e => H3.out.2.2.2.2 (e ▸ H3.out.1.oD)) _ x19
              clear hK K hHeld1
              (try simp only [Act.put, List.setIfInBounds_toArray, List.set_cons_zero, List.set_cons_succ])
              refine wpAnyH_ready (rs := [7, 16]) (by kernel_rfl) (by simp) ?_
              refine AllReadyH.cons (o := ⟨some 60, _, _, _, _, _⟩) rfl (fun K hK => ?_) ?_
              · skip
                refine step_append_all (by rfl) _ _ _ (by rfl) W3.heap.size 94 j0 _ 2 40 Tryz.underlying71 HJ.out.1 HJ.out.2.1 HJ.out.2.2.1 HJ.out.2.2.2 rfl (by omega) (.slice none 0 0) 0 [] (by rfl) (World.ownsRow_nil _ _ _ _) _ _ _ (rowC fileC (l.take pl) (vl.take pl)) (by rfl) (by have h := HU.out.2.2.1; omega) (by first | exact HNT.out _ HC.out | exact HNT.out _ HC.out.drew | exact HNT.out _ (HC.out.alloc _) | exact HNT.out _ (HC.out.alloc _).drew) HU.out.1 pl (by omega) (rowC fileC (l.take pl) (vl.take pl)) (List.nil_append _) (by unfold maxLen; omega) (by omega) (by first | exact HC.out.size | exact HC.out.drew.size | exact (HC.out.alloc _).size | exact (HC.out.alloc _).drew.size) ?_
                intro XA xc w7 ho7 hg7 hat7
                try have HB7 : Hid (Holds w7 W3.heap.size 94 #[.string nm, .slice none 0 0]) := Lib.hid (((Chg.grown hg7).mono (T := fun _ => False) (fun _ _ h => by cases h)).holds (fun h => h) (Holds.new W3 _ _))
                replace HC : Hid (Chg W3 w7 (fun _ => False)) := by
                  first
                  | exact HC.out.trans ((Chg.grown hg7).mono (fun _ _ h => by cases h)) (fun _ _ h => h)
                  | exact HC.out.drew.trans ((Chg.grown hg7).mono (fun _ _ h => by cases h)) (fun _ _ h => h)
                  | exact (HC.out.alloc _).trans ((Chg.grown hg7).mono (fun _ _ h => by cases h)) (fun _ _ h => h)
                  | exact (HC.out.alloc _).drew.trans ((Chg.grown hg7).mono (fun _ _ h => by cases h)) (fun _ _ h => h)
                have y7 := HYY.out _ HC.out
                have x7 := HC.out.cell (p := ⟨n, 1, none⟩) (fun h => h) HY1.out.2
                have y7a := HYY.out _ (HC.out.alloc (.cells #[.string nm, .slice none 0 0] 94))
                have x7a := (HC.out.alloc (.cells #[.string nm, .slice none 0 0] 94)).cell (p := ⟨n, 1, none⟩) (fun h => h) HY1.out.2
                have HX7 := Lib.hid ho7
                clear ho7 hg7 hat7
                refine hK.out _ _ ?_ (fun hHeld3 => ?_)
                · (try dsimp only)
                  first | exact x1 | exact x1a | exact x7 | exact x7a | exact x12 | exact x19 | exact x22 | exact cell_far (g := db) (b := n) (i := 1) (j := 1) (show db ≠ n from fun e => H3.out.2.2.2.2 (e ▸ H3.out.1.oD)) _ x19
                clear hK K hHeld2
                (try simp only [Act.put, List.setIfInBounds_toArray, List.set_cons_zero, List.set_cons_succ])
                refine wpAnyH_ready (rs := [12, 16]) (by kernel_rfl) (by simp) ?_
                refine AllReadyH.cons (o := ⟨some 65, _, _, _, _, _⟩) rfl (fun K hK => ?_) ?_
                · skip
                  refine step_append_all (by rfl) _ _ _ (by rfl) W3.heap.size 94 j0 _ 2 40 Tryz.underlying71 HJ.out.1 HJ.out.2.1 HJ.out.2.2.1 HJ.out.2.2.2 rfl (by omega) (.slice XA pl xc) pl (rowC fileC (l.take pl) (vl.take pl)) (by rfl) (by first | exact HX7.out | exact HX7.out.drew | exact HX7.out.alloc _ | exact (HX7.out.alloc _).drew) _ _ _ [.string nm, .slice none 0 0] (by rfl) (by rfl) (by first | exact fun j u hu => ⟨_, rfl, World.news_of_block (cs := #[.string nm, .slice none 0 0]) (t := 94) (fr := (0, 0)) (heap_alloc_new w7 _) j u hu⟩ | exact fun j u hu => ⟨_, rfl, World.news_of_block (cs := #[.string nm, .slice none 0 0]) (t := 94) (fr := (0, 0)) HB7.out j u hu⟩) (by simp [Value.oneCell']) (pl + 1) rfl (rowC fileC (l.take pl) (vl.take pl) ++ [.string nm, .slice none 0 0]) rfl (by unfold maxLen; omega) (by omega) (by first | exact HC.out.size | exact HC.out.drew.size | exact (HC.out.alloc _).size | exact (HC.out.alloc _).drew.size) ?_
                  intro YA yc w12 ho12 hg12 hat12
                  replace HC : Hid (Chg W3 w12 (fun _ => False)) := by
                    obtain ⟨_, _, _, hzb⟩ := owns_formD HX7.out
                    first
                    | exact HC.out.trans (Chg.grown hg12) (fun k hk h => by have := (hzb k h.symm).1; omega)
                    | exact HC.out.drew.trans (Chg.grown hg12) (fun k hk h => by have := (hzb k h.symm).1; omega)
                    | exact (HC.out.alloc _).trans (Chg.grown hg12) (fun k hk h => by have := (hzb k h.symm).1; omega)
                    | exact (HC.out.alloc _).drew.trans (Chg.grown hg12) (fun k hk h => by have := (hzb k h.symm).1; omega)
                  have y12 := HYY.out _ HC.out
                  have x12 := HC.out.cell (p := ⟨n, 1, none⟩) (fun h => h) HY1.out.2
                  have HX12 := Lib.hid ho12
                  clear ho12 hg12 hat12
                  refine hK.out _ _ ?_ (fun hHeld4 => ?_)
                  · (try dsimp only)
                    first | exact x1 | exact x1a | exact x7 | exact x7a | exact x12 | exact x19 | exact x22 | exact cell_far (g := db) (b := n) (i := 1) (j := 1) (show db ≠ n from fun e => H3.out.2.2.2.2 (e ▸ H3.out.1.oD)) _ x19
                  clear hK K hHeld3
                  (try simp only [Act.put, List.setIfInBounds_toArray, List.set_cons_zero, List.set_cons_succ])
                  refine wpAnyH_ready (rs := [16]) (by kernel_rfl) (by simp) ?_
                  refine AllReadyH.cons (o := ⟨some 69, _, _, _, _, _⟩) rfl (fun K hK => ?_) AllReadyH.nil
                  go_simp
                  refine hK.out _ _ ?_ (fun hHeld5 => ?_)
                  · (try dsimp only)
                    first | exact x1 | exact x1a | exact x7 | exact x7a | exact x12 | exact x19 | exact x22 | exact cell_far (g := db) (b := n) (i := 1) (j := 1) (show db ≠ n from fun e => H3.out.2.2.2.2 (e ▸ H3.out.1.oD)) _ x19
                  clear hK K hHeld4
                  (try simp only [Act.put, List.setIfInBounds_toArray, List.set_cons_zero, List.set_cons_succ])
                  refine wpAnyH_take (i := 18) (oi := ⟨some 71, _, _, _, _, _⟩) (v := ?_) rfl (by kernel_rfl) (by kernel_rfl) (by kernel_rfl) (fun _ _ _ h => h) (Or.inl ⟨by kernel_rfl, ?_⟩) (by assumption) ?_
                  rotate_left
                  · (intro w hSw; (try dsimp only at hSw); go_simp; (first | done | with_reducible rfl))
                  (try simp only [Act.put, List.setIfInBounds_toArray, List.set_cons_zero, List.set_cons_succ])
                  refine wpAnyH_ready (rs := [19]) (by kernel_rfl) (by simp) ?_
                  refine AllReadyH.cons (o := ⟨some 72, _, _, _, _, _⟩) rfl (fun K hK => ?_) AllReadyH.nil
                  refine step_append_all (by rfl) _ _ _ (by rfl) W3.heap.size 94 j0 _ 2 40 Tryz.underlying71 HJ.out.1 HJ.out.2.1 HJ.out.2.2.1 HJ.out.2.2.2 rfl (by omega) (.slice YA (pl + 1) yc) (pl + 1) (rowC fileC (l.take pl) (vl.take pl) ++ [.string nm, .slice none 0 0]) (by rfl) (by first | exact HX12.out | exact HX12.out.drew) _ _ _ (rowC fileC (l.drop pl) (vl.drop pl)) (by rfl) (by have h := HU.out.2.2.2; omega) (by first | exact HND.out _ HC.out | exact HND.out _ HC.out.drew) HU.out.2.1 (pl + 1 + (l.length - pl)) (by omega) ((rowC fileC (l.take pl) (vl.take pl) ++ [.string nm, .slice none 0 0]) ++ rowC fileC (l.drop pl) (vl.drop pl)) rfl (by unfold maxLen; omega) (by omega) (by first | exact HC.out.size | exact HC.out.drew.size) ?_
                  intro ZA zc w19 ho19 hg19 hat19
                  replace HC : Hid (Chg W3 w19 (fun _ => False)) := by
                    obtain ⟨_, _, _, hzb⟩ := owns_formD HX12.out
                    first
                    | exact HC.out.trans (Chg.grown hg19) (fun k hk h => by have := (hzb k h.symm).1; omega)
                    | exact HC.out.drew.trans (Chg.grown hg19) (fun k hk h => by have := (hzb k h.symm).1; omega)
                  have y19 := HYY.out _ HC.out
                  have x19 := HC.out.cell (p := ⟨n, 1, none⟩) (fun h => h) HY1.out.2
                  have q19 := (HC.out.holds (fun h => h) H3.out.1.hold).free 1
                  have x22 := cell_far (g := db) (b := n) (i := 1) (j := 1) (show db ≠ n from fun e => H3.out.2.2.2.2 (e ▸ H3.out.1.oD)) (.slice ZA (pl + 1 + (l.length - pl)) zc) x19
                  have HX19 := Lib.hid ho19
                  clear ho19 hg19 hat19
                  refine hK.out _ _ ?_ (fun hHeld6 => ?_)
                  · (try dsimp only)
                    first | exact x1 | exact x1a | exact x7 | exact x7a | exact x12 | exact x19 | exact x22 | exact cell_far (g := db) (b := n) (i := 1) (j := 1) (show db ≠ n from fun e => H3.out.2.2.2.2 (e ▸ H3.out.1.oD)) _ x19
                  clear hK K hHeld5
                  (try simp only [Act.put, List.setIfInBounds_toArray, List.set_cons_zero, List.set_cons_succ])
                  refine wpAnyH_take (i := 20) (oi := ⟨some 73, _, _, _, _, _⟩) (v := ?_) rfl (by kernel_rfl) (by kernel_rfl) (by kernel_rfl) (fun _ _ _ h => h) (Or.inl ⟨by kernel_rfl, ?_⟩) (by assumption) ?_
                  rotate_left
                  · (intro w hSw; (try dsimp only at hSw); go_simp; (first | done | with_reducible rfl))
                  (try simp only [Act.put, List.setIfInBounds_toArray, List.set_cons_zero, List.set_cons_succ])
                  refine wpAnyH_take (i := 21) (oi := ⟨some 74, _, _, _, _, _⟩) (v := ?_) rfl (by kernel_rfl) (by kernel_rfl) (by kernel_rfl) (fun _ _ _ h => h) (Or.inl ⟨by kernel_rfl, ?_⟩) (by assumption) ?_
                  rotate_left
                  · (intro w hSw; (try dsimp only at hSw); go_simp; (first | done | with_reducible rfl))
                  (try simp only [Act.put, List.setIfInBounds_toArray, List.set_cons_zero, List.set_cons_succ])
                  refine wpAnyH_ready (rs := [22]) (by kernel_rfl) (by simp) ?_
                  refine AllReadyH.cons rfl (fun K hK => ?_) AllReadyH.nil
                  go_simp
                  refine hK.out _ _ ?_ (fun hHeld7 => ?_)
                  · (try dsimp only)
                    first | exact x1 | exact x1a | exact x7 | exact x7a | exact x12 | exact x19 | exact x22 | exact cell_far (g := db) (b := n) (i := 1) (j := 1) (show db ≠ n from fun e => H3.out.2.2.2.2 (e ▸ H3.out.1.oD)) _ x19
                  clear hK K hHeld6
                  (try simp only [Act.put, List.setIfInBounds_toArray, List.set_cons_zero, List.set_cons_succ])
                  refine wpAnyH_done (by kernel_rfl) ?_ _
                  go_wp2
                  all_goals
                    (try simp only [Exit.inBlock, Exit.then])
                    first
                    | go_end0
                    | refine bodyPost_ret (results_none rfl _ _ _) rfl ?_
                    obtain ⟨z1, z2, z3, z4, z5, z6⟩ := HEND.out _ _ _ HC.out HX19.out
                    first | exact ⟨rfl, z1, z2, z3, z4, z5, z6⟩ | exact ⟨rfl, z1, z2, ⟨z3, z4, z5⟩, z6⟩ | (have hq0 : pl + 1 + (l.length - pl) = pl + 1 := (by omega); rw [hq0] at z5 z6; exact ⟨rfl, z1, z2, z3, z4, z5, z6⟩)
                refine AllReadyH.cons (o := ⟨some 69, _, _, _, _, _⟩) rfl (fun K hK => ?_) AllReadyH.nil
                go_simp
                refine hK.out _ _ ?_ (fun hHeld4 => ?_)
                · (try dsimp only)
                  first | exact x1 | exact x1a | exact x7 | exact x7a | exact x12 | exact x19 | exact x22 | exact cell_far (g := db) (b := n) (i := 1) (j := 1) (show db ≠ n from fun e => H3.out.2.2.2.2 (e ▸ H3.out.1.oD)) _ x19
                clear hK K hHeld3
                (try simp only [Act.put, List.setIfInBounds_toArray, List.set_cons_zero, List.set_cons_succ])
                refine wpAnyH_take (i := 18) (oi := ⟨some 71, _, _, _, _, _⟩) (v := ?_) rfl (by kernel_rfl) (by kernel_rfl) (by kernel_rfl) (fun _ _ _ h => h) (Or.inl ⟨by kernel_rfl, ?_⟩) (by assumption) ?_
                rotate_left
                · (intro w hSw; (try dsimp only at hSw); go_simp; (first | done | with_reducible rfl))
                (try simp only [Act.put, List.setIfInBounds_toArray, List.set_cons_zero, List.set_cons_succ])
                refine wpAnyH_ready (rs := [12]) (by kernel_rfl) (by simp) ?_
                refine AllReadyH.cons (o := ⟨some 65, _, _, _, _, _⟩) rfl (fun K hK => ?_) AllReadyH.nil
                refine step_append_all (by rfl) _ _ _ (by rfl) W3.heap.size 94 j0 _ 2 40 Tryz.underlying71 HJ.out.1 HJ.out.2.1 HJ.out.2.2.1 HJ.out.2.2.2 rfl (by omega) (.slice XA pl xc) pl (rowC fileC (l.take pl) (vl.take pl)) (by rfl) (by first | exact HX7.out | exact HX7.out.drew | exact HX7.out.alloc _ | exact (HX7.out.alloc _).drew) _ _ _ [.string nm, .slice none 0 0] (by rfl) (by rfl) (by first | exact fun j u hu => ⟨_, rfl, World.news_of_block (cs := #[.string nm, .slice none 0 0]) (t := 94) (fr := (0, 0)) (heap_alloc_new w7 _) j u hu⟩ | exact fun j u hu => ⟨_, rfl, World.news_of_block (cs := #[.string nm, .slice none 0 0]) (t := 94) (fr := (0, 0)) HB7.out j u hu⟩) (by simp [Value.oneCell']) (pl + 1) rfl (rowC fileC (l.take pl) (vl.take pl) ++ [.string nm, .slice none 0 0]) rfl (by unfold maxLen; omega) (by omega) (by first | exact HC.out.size | exact HC.out.drew.size | exact (HC.out.alloc _).size | exact (HC.out.alloc _).drew.size) ?_
                intro YA yc w12 ho12 hg12 hat12
                replace HC : Hid (Chg W3 w12 (fun _ => False)) := by
                  obtain ⟨_, _, _, hzb⟩ := owns_formD HX7.out
                  first
                  | exact HC.out.trans (Chg.grown hg12) (fun k hk h => by have := (hzb k h.symm).1; omega)
                  | exact HC.out.drew.trans (Chg.grown hg12) (fun k hk h => by have := (hzb k h.symm).1; omega)
                  | exact (HC.out.alloc _).trans (Chg.grown hg12) (fun k hk h => by have := (hzb k h.symm).1; omega)
                  | exact (HC.out.alloc _).drew.trans (Chg.grown hg12) (fun k hk h => by have := (hzb k h.symm).1; omega)
                have y12 := HYY.out _ HC.out
                have x12 := HC.out.cell (p := ⟨n, 1, none⟩) (fun h => h) HY1.out.2
                have HX12 := Lib.hid ho12
                clear ho12 hg12 hat12
                refine hK.out _ _ ?_ (fun hHeld5 => ?_)
                · (try dsimp only)
                  first | exact x1 | exact x1a | exact x7 | exact x7a | exact x12 | exact x19 | exact x22 | exact cell_far (g := db) (b := n) (i := 1) (j := 1) (show db ≠ n from fun e => H3.out.2.2.2.2 (e ▸ H3.out.1.oD)) _ x19
                clear hK K hHeld4
                (try simp only [Act.put, List.setIfInBounds_toArray, List.set_cons_zero, List.set_cons_succ])
                refine wpAnyH_ready (rs := [19]) (by kernel_rfl) (by simp) ?_
                refine AllReadyH.cons (o := ⟨some 72, _, _, _, _, _⟩) rfl (fun K hK => ?_) AllReadyH.nil
                refine step_append_all (by rfl) _ _ _ (by rfl) W3.heap.size 94 j0 _ 2 40 Tryz.underlying71 HJ.out.1 HJ.out.2.1 HJ.out.2.2.1 HJ.out.2.2.2 rfl (by omega) (.slice YA (pl + 1) yc) (pl + 1) (rowC fileC (l.take pl) (vl.take pl) ++ [.string nm, .slice none 0 0]) (by rfl) (by first | exact HX12.out | exact HX12.out.drew) _ _ _ (rowC fileC (l.drop pl) (vl.drop pl)) (by rfl) (by have h := HU.out.2.2.2; omega) (by first | exact HND.out _ HC.out | exact HND.out _ HC.out.drew) HU.out.2.1 (pl + 1 + (l.length - pl)) (by omega) ((rowC fileC (l.take pl) (vl.take pl) ++ [.string nm, .slice none 0 0]) ++ rowC fileC (l.drop pl) (vl.drop pl)) rfl (by unfold maxLen; omega) (by omega) (by first | exact HC.out.size | exact HC.out.drew.size) ?_
                intro ZA zc w19 ho19 hg19 hat19
                replace HC : Hid (Chg W3 w19 (fun _ => False)) := by
                  obtain ⟨_, _, _, hzb⟩ := owns_formD HX12.out
                  first
                  | exact HC.out.trans (Chg.grown hg19) (fun k hk h => by have := (hzb k h.symm).1; omega)
                  | exact HC.out.drew.trans (Chg.grown hg19) (fun k hk h => by have := (hzb k h.symm).1; omega)
                have y19 := HYY.out _ HC.out
                have x19 := HC.out.cell (p := ⟨n, 1, none⟩) (fun h => h) HY1.out.2
                have q19 := (HC.out.holds (fun h => h) H3.out.1.hold).free 1
                have x22 := cell_far (g := db) (b := n) (i := 1) (j := 1) (show db ≠ n from fun e => H3.out.2.2.2.2 (e ▸ H3.out.1.oD)) (.slice ZA (pl + 1 + (l.length - pl)) zc) x19
                have HX19 := Lib.hid ho19
                clear ho19 hg19 hat19
                refine hK.out _ _ ?_ (fun hHeld6 => ?_)
                · (try dsimp only)
                  first | exact x1 | exact x1a | exact x7 | exact x7a | exact x12 | exact x19 | exact x22 | exact cell_far (g := db) (b := n) (i := 1) (j := 1) (show db ≠ n from fun e => H3.out.2.2.2.2 (e ▸ H3.out.1.oD)) _ x19
                clear hK K hHeld5
                (try simp only [Act.put, List.setIfInBounds_toArray, List.set_cons_zero, List.set_cons_succ])
                refine wpAnyH_take (i := 20) (oi := ⟨some 73, _, _, _, _, _⟩) (v := ?_) rfl (by kernel_rfl) (by kernel_rfl) (by kernel_rfl) (fun _ _ _ h => h) (Or.inl ⟨by kernel_rfl, ?_⟩) (by assumption) ?_
                rotate_left
                · (intro w hSw; (try dsimp only at hSw); go_simp; (first | done | with_reducible rfl))
                (try simp only [Act.put, List.setIfInBounds_toArray, List.set_cons_zero, List.set_cons_succ])
                refine wpAnyH_take (i := 21) (oi := ⟨some 74, _, _, _, _, _⟩) (v := ?_) rfl (by kernel_rfl) (by kernel_rfl) (by kernel_rfl) (fun _ _ _ h => h) (Or.inl ⟨by kernel_rfl, ?_⟩) (by assumption) ?_
                rotate_left
                · (intro w hSw; (try dsimp only at hSw); go_simp; (first | done | with_reducible rfl))
                (try simp only [Act.put, List.setIfInBounds_toArray, List.set_cons_zero, List.set_cons_succ])
                refine wpAnyH_ready (rs := [22]) (by kernel_rfl) (by simp) ?_
                refine AllReadyH.cons rfl (fun K hK => ?_) AllReadyH.nil
                go_simp
                refine hK.out _ _ ?_ (fun hHeld7 => ?_)
                · (try dsimp only)
                  first | exact x1 | exact x1a | exact x7 | exact x7a | exact x12 | exact x19 | exact x22 | exact cell_far (g := db) (b := n) (i := 1) (j := 1) (show db ≠ n from fun e => H3.out.2.2.2.2 (e ▸ H3.out.1.oD)) _ x19
                clear hK K hHeld6
                (try simp only [Act.put, List.setIfInBounds_toArray, List.set_cons_zero, List.set_cons_succ])
                refine wpAnyH_done (by kernel_rfl) ?_ _
                go_wp2
                all_goals
                  (try simp only [Exit.inBlock, Exit.then])
                  first
                  | go_end0
                  | refine bodyPost_ret (results_none rfl _ _ _) rfl ?_
                  obtain ⟨z1, z2, z3, z4, z5, z6⟩ := HEND.out _ _ _ HC.out HX19.out
                  first | exact ⟨rfl, z1, z2, z3, z4, z5, z6⟩ | exact ⟨rfl, z1, z2, ⟨z3, z4, z5⟩, z6⟩ | (have hq0 : pl + 1 + (l.length - pl) = pl + 1 := (by omega); rw [hq0] at z5 z6; exact ⟨rfl, z1, z2, z3, z4, z5, z6⟩)
              refine AllReadyH.cons (o := ⟨some 69, _, _, _, _, _⟩) rfl (fun K hK => ?_) AllReadyH.nil
              go_simp
              refine hK.out _ _ ?_ (fun hHeld3 => ?_)
              · (try dsimp only)
                first | exact x1 | exact x1a | exact x7 | exact x7a | exact x12 | exact x19 | exact x22 | exact cell_far (g := db) (b := n) (i := 1) (j := 1) (show db ≠ n from fun e => H3.out.2.2.2.2 (e ▸ H3.out.1.oD)) _ x19
              clear hK K hHeld2
              (try simp only [Act.put, List.setIfInBounds_toArray, List.set_cons_zero, List.set_cons_succ])
              refine wpAnyH_take (i := 18) (oi := ⟨some 71, _, _, _, _, _⟩) (v := ?_) rfl (by kernel_rfl) (by kernel_rfl) (by kernel_rfl) (fun _ _ _ h => h) (Or.inl ⟨by kernel_rfl, ?_⟩) (by assumption) ?_
              rotate_left
              · (intro w hSw; (try dsimp only at hSw); go_simp; (first | done | with_reducible rfl))
              (try simp only [Act.put, List.setIfInBounds_toArray, List.set_cons_zero, List.set_cons_succ])
              refine wpAnyH_ready (rs := [7]) (by kernel_rfl) (by simp) ?_
              refine AllReadyH.cons (o := ⟨some 60, _, _, _, _, _⟩) rfl (fun K hK => ?_) AllReadyH.nil
              refine step_append_all (by rfl) _ _ _ (by rfl) W3.heap.size 94 j0 _ 2 40 Tryz.underlying71 HJ.out.1 HJ.out.2.1 HJ.out.2.2.1 HJ.out.2.2.2 rfl (by omega) (.slice none 0 0) 0 [] (by rfl) (World.ownsRow_nil _ _ _ _) _ _ _ (rowC fileC (l.take pl) (vl.take pl)) (by rfl) (by have h := HU.out.2.2.1; omega) (by first | exact HNT.out _ HC.out | exact HNT.out _ HC.out.drew | exact HNT.out _ (HC.out.alloc _) | exact HNT.out _ (HC.out.alloc _).drew) HU.out.1 pl (by omega) (rowC fileC (l.take pl) (vl.take pl)) (List.nil_append _) (by unfold maxLen; omega) (by omega) (by first | exact HC.out.size | exact HC.out.drew.size | exact (HC.out.alloc _).size | exact (HC.out.alloc _).drew.size) ?_
              intro XA xc w7 ho7 hg7 hat7
              try have HB7 : Hid (Holds w7 W3.heap.size 94 #[.string nm, .slice none 0 0]) := Lib.hid (((Chg.grown hg7).mono (T := fun _ => False) (fun _ _ h => by cases h)).holds (fun h => h) (Holds.new W3 _ _))
              replace HC : Hid (Chg W3 w7 (fun _ => False)) := by
                first
                | exact HC.out.trans ((Chg.grown hg7).mono (fun _ _ h => by cases h)) (fun _ _ h => h)
                | exact HC.out.drew.trans ((Chg.grown hg7).mono (fun _ _ h => by cases h)) (fun _ _ h => h)
                | exact (HC.out.alloc _).trans ((Chg.grown hg7).mono (fun _ _ h => by cases h)) (fun _ _ h => h)
                | exact (HC.out.alloc _).drew.trans ((Chg.grown hg7).mono (fun _ _ h => by cases h)) (fun _ _ h => h)
              have y7 := HYY.out _ HC.out
              have x7 := HC.out.cell (p := ⟨n, 1, none⟩) (fun h => h) HY1.out.2
              have y7a := HYY.out _ (HC.out.alloc (.cells #[.string nm, .slice none 0 0] 94))
              have x7a := (HC.out.alloc (.cells #[.string nm, .slice none 0 0] 94)).cell (p := ⟨n, 1, none⟩) (fun h => h) HY1.out.2
              have HX7 := Lib.hid ho7
              clear ho7 hg7 hat7
              refine hK.out _ _ ?_ (fun hHeld4 => ?_)
              · (try dsimp only)
                first | exact x1 | exact x1a | exact x7 | exact x7a | exact x12 | exact x19 | exact x22 | exact cell_far (g := db) (b := n) (i := 1) (j := 1) (show db ≠ n from fun e => H3.out.2.2.2.2 (e ▸ H3.out.1.oD)) _ x19
              clear hK K hHeld3
              (try simp only [Act.put, List.setIfInBounds_toArray, List.set_cons_zero, List.set_cons_succ])
              refine wpAnyH_ready (rs := [12]) (by kernel_rfl) (by simp) ?_
              refine AllReadyH.cons (o := ⟨some 65, _, _, _, _, _⟩) rfl (fun K hK => ?_) AllReadyH.nil
              refine step_append_all (by rfl) _ _ _ (by rfl) W3.heap.size 94 j0 _ 2 40 Tryz.underlying71 HJ.out.1 HJ.out.2.1 HJ.out.2.2.1 HJ.out.2.2.2 rfl (by omega) (.slice XA pl xc) pl (rowC fileC (l.take pl) (vl.take pl)) (by rfl) (by first | exact HX7.out | exact HX7.out.drew | exact HX7.out.alloc _ | exact (HX7.out.alloc _).drew) _ _ _ [.string nm, .slice none 0 0] (by rfl) (by rfl) (by first | exact fun j u hu => ⟨_, rfl, World.news_of_block (cs := #[.string nm, .slice none 0 0]) (t := 94) (fr := (0, 0)) (heap_alloc_new w7 _) j u hu⟩ | exact fun j u hu => ⟨_, rfl, World.news_of_block (cs := #[.string nm, .slice none 0 0]) (t := 94) (fr := (0, 0)) HB7.out j u hu⟩) (by simp [Value.oneCell']) (pl + 1) rfl (rowC fileC (l.take pl) (vl.take pl) ++ [.string nm, .slice none 0 0]) rfl (by unfold maxLen; omega) (by omega) (by first | exact HC.out.size | exact HC.out.drew.size | exact (HC.out.alloc _).size | exact (HC.out.alloc _).drew.size) ?_
              intro YA yc w12 ho12 hg12 hat12
              replace HC : Hid (Chg W3 w12 (fun _ => False)) := by
                obtain ⟨_, _, _, hzb⟩ := owns_formD HX7.out
                first
                | exact HC.out.trans (Chg.grown hg12) (fun k hk h => by have := (hzb k h.symm).1; omega)
                | exact HC.out.drew.trans (Chg.grown hg12) (fun k hk h => by have := (hzb k h.symm).1; omega)
                | exact (HC.out.alloc _).trans (Chg.grown hg12) (fun k hk h => by have := (hzb k h.symm).1; omega)
                | exact (HC.out.alloc _).drew.trans (Chg.grown hg12) (fun k hk h => by have := (hzb k h.symm).1; omega)
              have y12 := HYY.out _ HC.out
              have x12 := HC.out.cell (p := ⟨n, 1, none⟩) (fun h => h) HY1.out.2
              have HX12 := Lib.hid ho12
              clear ho12 hg12 hat12
              refine hK.out _ _ ?_ (fun hHeld5 => ?_)
              · (try dsimp only)
                first | exact x1 | exact x1a | exact x7 | exact x7a | exact x12 | exact x19 | exact x22 | exact cell_far (g := db) (b := n) (i := 1) (j := 1) (show db ≠ n from fun e => H3.out.2.2.2.2 (e ▸ H3.out.1.oD)) _ x19
              clear hK K hHeld4
              (try simp only [Act.put, List.setIfInBounds_toArray, List.set_cons_zero, List.set_cons_succ])
              refine wpAnyH_ready (rs := [19]) (by kernel_rfl) (by simp) ?_
              refine AllReadyH.cons (o := ⟨some 72, _, _, _, _, _⟩) rfl (fun K hK => ?_) AllReadyH.nil
              refine step_append_all (by rfl) _ _ _ (by rfl) W3.heap.size 94 j0 _ 2 40 Tryz.underlying71 HJ.out.1 HJ.out.2.1 HJ.out.2.2.1 HJ.out.2.2.2 rfl (by omega) (.slice YA (pl + 1) yc) (pl + 1) (rowC fileC (l.take pl) (vl.take pl) ++ [.string nm, .slice none 0 0]) (by rfl) (by first | exact HX12.out | exact HX12.out.drew) _ _ _ (rowC fileC (l.drop pl) (vl.drop pl)) (by rfl) (by have h := HU.out.2.2.2; omega) (by first | exact HND.out _ HC.out | exact HND.out _ HC.out.drew) HU.out.2.1 (pl + 1 + (l.length - pl)) (by omega) ((rowC fileC (l.take pl) (vl.take pl) ++ [.string nm, .slice none 0 0]) ++ rowC fileC (l.drop pl) (vl.drop pl)) rfl (by unfold maxLen; omega) (by omega) (by first | exact HC.out.size | exact HC.out.drew.size) ?_
              intro ZA zc w19 ho19 hg19 hat19
              replace HC : Hid (Chg W3 w19 (fun _ => False)) := by
                obtain ⟨_, _, _, hzb⟩ := owns_formD HX12.out
                first
                | exact HC.out.trans (Chg.grown hg19) (fun k hk h => by have := (hzb k h.symm).1; omega)
                | exact HC.out.drew.trans (Chg.grown hg19) (fun k hk h => by have := (hzb k h.symm).1; omega)
              have y19 := HYY.out _ HC.out
              have x19 := HC.out.cell (p := ⟨n, 1, none⟩) (fun h => h) HY1.out.2
              have q19 := (HC.out.holds (fun h => h) H3.out.1.hold).free 1
              have x22 := cell_far (g := db) (b := n) (i := 1) (j := 1) (show db ≠ n from fun e => H3.out.2.2.2.2 (e ▸ H3.out.1.oD)) (.slice ZA (pl + 1 + (l.length - pl)) zc) x19
              have HX19 := Lib.hid ho19
              clear ho19 hg19 hat19
              refine hK.out _ _ ?_ (fun hHeld6 => ?_)
              · (try dsimp only)
                first | exact x1 | exact x1a | exact x7 | exact x7a | exact x12 | exact x19 | exact x22 | exact cell_far (g := db) (b := n) (i := 1) (j := 1) (show db ≠ n from fun e => H3.out.2.2.2.2 (e ▸ H3.out.1.oD)) _ x19
              clear hK K hHeld5
              (try simp only [Act.put, List.setIfInBounds_toArray, List.set_cons_zero, List.set_cons_succ])
              refine wpAnyH_take (i := 20) (oi := ⟨some 73, _, _, _, _, _⟩) (v := ?_) rfl (by kernel_rfl) (by kernel_rfl) (by kernel_rfl) (fun _ _ _ h => h) (Or.inl ⟨by kernel_rfl, ?_⟩) (by assumption) ?_
              rotate_left
              · (intro w hSw; (try dsimp only at hSw); go_simp; (first | done | with_reducible rfl))
              (try simp only [Act.put, List.setIfInBounds_toArray, List.set_cons_zero, List.set_cons_succ])
              refine wpAnyH_take (i := 21) (oi := ⟨some 74, _, _, _, _, _⟩) (v := ?_) rfl (by kernel_rfl) (by kernel_rfl) (by kernel_rfl) (fun _ _ _ h => h) (Or.inl ⟨by kernel_rfl, ?_⟩) (by assumption) ?_
              rotate_left
              · (intro w hSw; (try dsimp only at hSw); go_simp; (first | done | with_reducible rfl))
              (try simp only [Act.put, List.setIfInBounds_toArray, List.set_cons_zero, List.set_cons_succ])
              refine wpAnyH_ready (rs := [22]) (by kernel_rfl) (by simp) ?_
              refine AllReadyH.cons rfl (fun K hK => ?_) AllReadyH.nil
              go_simp
              refine hK.out _ _ ?_ (fun hHeld7 => ?_)
              · (try dsimp only)
                first | exact x1 | exact x1a | exact x7 | exact x7a | exact x12 | exact x19 | exact x22 | exact cell_far (g := db) (b := n) (i := 1) (j := 1) (show db ≠ n from fun e => H3.out.2.2.2.2 (e ▸ H3.out.1.oD)) _ x19
              clear hK K hHeld6
              (try simp only [Act.put, List.setIfInBounds_toArray, List.set_cons_zero, List.set_cons_succ])
              refine wpAnyH_done (by kernel_rfl) ?_ _
              go_wp2
              all_goals
                (try simp only [Exit.inBlock, Exit.then])
                first
                | go_end0
                | refine bodyPost_ret (results_none rfl _ _ _) rfl ?_
                obtain ⟨z1, z2, z3, z4, z5, z6⟩ := HEND.out _ _ _ HC.out HX19.out
                first | exact ⟨rfl, z1, z2, z3, z4, z5, z6⟩ | exact ⟨rfl, z1, z2, ⟨z3, z4, z5⟩, z6⟩ | (have hq0 : pl + 1 + (l.length - pl) = pl + 1 := (by omega); rw [hq0] at z5 z6; exact ⟨rfl, z1, z2, z3, z4, z5, z6⟩)
            refine AllReadyH.cons (o := ⟨some 69, _, _, _, _, _⟩) rfl (fun K hK => ?_) AllReadyH.nil
            go_simp
            refine hK.out _ _ ?_ (fun hHeld2 => ?_)
            · (try dsimp only)
              first | exact x1 | exact x1a | exact x7 | exact x7a | exact x12 | exact x19 | exact x22 | exact cell_far (g := db) (b := n) (i := 1) (j := 1) (show db ≠ n from fun e => H3.out.2.2.2.2 (e ▸ H3.out.1.oD)) _ x19
            clear hK K hHeld1
            (try simp only [Act.put, List.setIfInBounds_toArray, List.set_cons_zero, List.set_cons_succ])
            refine wpAnyH_take (i := 18) (oi := ⟨some 71, _, _, _, _, _⟩) (v := ?_) rfl (by kernel_rfl) (by kernel_rfl) (by kernel_rfl) (fun _ _ _ h => h) (Or.inl ⟨by kernel_rfl, ?_⟩) (by assumption) ?_
            rotate_left
            · (intro w hSw; (try dsimp only at hSw); go_simp; (first | done | with_reducible rfl))
            (try simp only [Act.put, List.setIfInBounds_toArray, List.set_cons_zero, List.set_cons_succ])
            refine wpAnyH_ready (rs := [7, 11]) (by kernel_rfl) (by simp) ?_
            refine AllReadyH.cons (o := ⟨some 60, _, _, _, _, _⟩) rfl (fun K hK => ?_) ?_
            · skip
              refine step_append_all (by rfl) _ _ _ (by rfl) W3.heap.size 94 j0 _ 2 40 Tryz.underlying71 HJ.out.1 HJ.out.2.1 HJ.out.2.2.1 HJ.out.2.2.2 rfl (by omega) (.slice none 0 0) 0 [] (by rfl) (World.ownsRow_nil _ _ _ _) _ _ _ (rowC fileC (l.take pl) (vl.take pl)) (by rfl) (by have h := HU.out.2.2.1; omega) (by first | exact HNT.out _ HC.out | exact HNT.out _ HC.out.drew | exact HNT.out _ (HC.out.alloc _) | exact HNT.out _ (HC.out.alloc _).drew) HU.out.1 pl (by omega) (rowC fileC (l.take pl) (vl.take pl)) (List.nil_append _) (by unfold maxLen; omega) (by omega) (by first | exact HC.out.size | exact HC.out.drew.size | exact (HC.out.alloc _).size | exact (HC.out.alloc _).drew.size) ?_
              intro XA xc w7 ho7 hg7 hat7
              try have HB7 : Hid (Holds w7 W3.heap.size 94 #[.string nm, .slice none 0 0]) := Lib.hid (((Chg.grown hg7).mono (T := fun _ => False) (fun _ _ h => by cases h)).holds (fun h => h) (Holds.new W3 _ _))
              replace HC : Hid (Chg W3 w7 (fun _ => False)) := by
                first
                | exact HC.out.trans ((Chg.grown hg7).mono (fun _ _ h => by cases h)) (fun _ _ h => h)
                | exact HC.out.drew.trans ((Chg.grown hg7).mono (fun _ _ h => by cases h)) (fun _ _ h => h)
                | exact (HC.out.alloc _).trans ((Chg.grown hg7).mono (fun _ _ h => by cases h)) (fun _ _ h => h)
                | exact (HC.out.alloc _).drew.trans ((Chg.grown hg7).mono (fun _ _ h => by cases h)) (fun _ _ h => h)
              have y7 := HYY.out _ HC.out
              have x7 := HC.out.cell (p := ⟨n, 1, none⟩) (fun h => h) HY1.out.2
              have y7a := HYY.out _ (HC.out.alloc (.cells #[.string nm, .slice none 0 0] 94))
              have x7a := (HC.out.alloc (.cells #[.string nm, .slice none 0 0] 94)).cell (p := ⟨n, 1, none⟩) (fun h => h) HY1.out.2
              have HX7 := Lib.hid ho7
              clear ho7 hg7 hat7
              refine hK.out _ _ ?_ (fun hHeld3 => ?_)
              · (try dsimp only)
                first | exact x1 | exact x1a | exact x7 | exact x7a | exact x12 | exact x19 | exact x22 | exact cell_far (g := db) (b := n) (i := 1) (j := 1) (show db ≠ n from fun e => H3.out.2.2.2.2 (e ▸ H3.out.1.oD)) _ x19
              clear hK K hHeld2
              (try simp only [Act.put, List.setIfInBounds_toArray, List.set_cons_zero, List.set_cons_succ])
              refine wpAnyH_ready (rs := [11]) (by kernel_rfl) (by simp) ?_
              refine AllReadyH.cons (o := ⟨some 64, _, _, _, _, _⟩) rfl (fun K hK => ?_) AllReadyH.nil
              go_simp
              refine hK.out _ _ ?_ (fun hHeld4 => ?_)
              · (try dsimp only)
                first | exact x1 | exact x1a | exact x7 | exact x7a | exact x12 | exact x19 | exact x22 | exact cell_far (g := db) (b := n) (i := 1) (j := 1) (show db ≠ n from fun e => H3.out.2.2.2.2 (e ▸ H3.out.1.oD)) _ x19
              clear hK K hHeld3
              (try simp only [Act.put, List.setIfInBounds_toArray, List.set_cons_zero, List.set_cons_succ])
              refine wpAnyH_ready (rs := [12]) (by kernel_rfl) (by simp) ?_
              refine AllReadyH.cons (o := ⟨some 65, _, _, _, _, _⟩) rfl (fun K hK => ?_) AllReadyH.nil
              refine step_append_all (by rfl) _ _ _ (by rfl) W3.heap.size 94 j0 _ 2 40 Tryz.underlying71 HJ.out.1 HJ.out.2.1 HJ.out.2.2.1 HJ.out.2.2.2 rfl (by omega) (.slice XA pl xc) pl (rowC fileC (l.take pl) (vl.take pl)) (by rfl) (by first | exact HX7.out | exact HX7.out.drew | exact HX7.out.alloc _ | exact (HX7.out.alloc _).drew) _ _ _ [.string nm, .slice none 0 0] (by rfl) (by rfl) (by first | exact fun j u hu => ⟨_, rfl, World.news_of_block (cs := #[.string nm, .slice none 0 0]) (t := 94) (fr := (0, 0)) (heap_alloc_new w7 _) j u hu⟩ | exact fun j u hu => ⟨_, rfl, World.news_of_block (cs := #[.string nm, .slice none 0 0]) (t := 94) (fr := (0, 0)) HB7.out j u hu⟩) (by simp [Value.oneCell']) (pl + 1) rfl (rowC fileC (l.take pl) (vl.take pl) ++ [.string nm, .slice none 0 0]) rfl (by unfold maxLen; omega) (by omega) (by first | exact HC.out.size | exact HC.out.drew.size | exact (HC.out.alloc _).size | exact (HC.out.alloc _).drew.size) ?_
              intro YA yc w12 ho12 hg12 hat12
              replace HC : Hid (Chg W3 w12 (fun _ => False)) := by
                obtain ⟨_, _, _, hzb⟩ := owns_formD HX7.out
                first
                | exact HC.out.trans (Chg.grown hg12) (fun k hk h => by have := (hzb k h.symm).1; omega)
                | exact HC.out.drew.trans (Chg.grown hg12) (fun k hk h => by have := (hzb k h.symm).1; omega)
                | exact (HC.out.alloc _).trans (Chg.grown hg12) (fun k hk h => by have := (hzb k h.symm).1; omega)
                | exact (HC.out.alloc _).drew.trans (Chg.grown hg12) (fun k hk h => by have := (hzb k h.symm).1; omega)
              have y12 := HYY.out _ HC.out
              have x12 := HC.out.cell (p := ⟨n, 1, none⟩) (fun h => h) HY1.out.2
              have HX12 := Lib.hid ho12
              clear ho12 hg12 hat12
              refine hK.out _ _ ?_ (fun hHeld5 => ?_)
              · (try dsimp only)
                first | exact x1 | exact x1a | exact x7 | exact x7a | exact x12 | exact x19 | exact x22 | exact cell_far (g := db) (b := n) (i := 1) (j := 1) (show db ≠ n from fun e => H3.out.2.2.2.2 (e ▸ H3.out.1.oD)) _ x19
              clear hK K hHeld4
              (try simp only [Act.put, List.setIfInBounds_toArray, List.set_cons_zero, List.set_cons_succ])
              refine wpAnyH_ready (rs := [19]) (by kernel_rfl) (by simp) ?_
              refine AllReadyH.cons (o := ⟨some 72, _, _, _, _, _⟩) rfl (fun K hK => ?_) AllReadyH.nil
              refine step_append_all (by rfl) _ _ _ (by rfl) W3.heap.size 94 j0 _ 2 40 Tryz.underlying71 HJ.out.1 HJ.out.2.1 HJ.out.2.2.1 HJ.out.2.2.2 rfl (by omega) (.slice YA (pl + 1) yc) (pl + 1) (rowC fileC (l.take pl) (vl.take pl) ++ [.string nm, .slice none 0 0]) (by rfl) (by first | exact HX12.out | exact HX12.out.drew) _ _ _ (rowC fileC (l.drop pl) (vl.drop pl)) (by rfl) (by have h := HU.out.2.2.2; omega) (by first | exact HND.out _ HC.out | exact HND.out _ HC.out.drew) HU.out.2.1 (pl + 1 + (l.length - pl)) (by omega) ((rowC fileC (l.take pl) (vl.take pl) ++ [.string nm, .slice none 0 0]) ++ rowC fileC (l.drop pl) (vl.drop pl)) rfl (by unfold maxLen; omega) (by omega) (by first | exact HC.out.size | exact HC.out.drew.size) ?_
              intro ZA zc w19 ho19 hg19 hat19
              replace HC : Hid (Chg W3 w19 (fun _ => False)) := by
                obtain ⟨_, _, _, hzb⟩ := owns_formD HX12.out
                first
                | exact HC.out.trans (Chg.grown hg19) (fun k hk h => by have := (hzb k h.symm).1; omega)
                | exact HC.out.drew.trans (Chg.grown hg19) (fun k hk h => by have := (hzb k h.symm).1; omega)
              have y19 := HYY.out _ HC.out
              have x19 := HC.out.cell (p := ⟨n, 1, none⟩) (fun h => h) HY1.out.2
              have q19 := (HC.out.holds (fun h => h) H3.out.1.hold).free 1
              have x22 := cell_far (g := db) (b := n) (i := 1) (j := 1) (show db ≠ n from fun e => H3.out.2.2.2.2 (e ▸ H3.out.1.oD)) (.slice ZA (pl + 1 + (l.length - pl)) zc) x19
              have HX19 := Lib.hid ho19
              clear ho19 hg19 hat19
              refine hK.out _ _ ?_ (fun hHeld6 => ?_)
              · (try dsimp only)
                first | exact x1 | exact x1a | exact x7 | exact x7a | exact x12 | exact x19 | exact x22 | exact cell_far (g := db) (b := n) (i := 1) (j := 1) (show db ≠ n from fun e => H3.out.2.2.2.2 (e ▸ H3.out.1.oD)) _ x19
              clear hK K hHeld5
              (try simp only [Act.put, List.setIfInBounds_toArray, List.set_cons_zero, List.set_cons_succ])
              refine wpAnyH_take (i := 20) (oi := ⟨some 73, _, _, _, _, _⟩) (v := ?_) rfl (by kernel_rfl) (by kernel_rfl) (by kernel_rfl) (fun _ _ _ h => h) (Or.inl ⟨by kernel_rfl, ?_⟩) (by assumption) ?_
              rotate_left
              · (intro w hSw; (try dsimp only at hSw); go_simp; (first | done | with_reducible rfl))
              (try simp only [Act.put, List.setIfInBounds_toArray, List.set_cons_zero, List.set_cons_succ])
              refine wpAnyH_take (i := 21) (oi := ⟨some 74, _, _, _, _, _⟩) (v := ?_) rfl (by kernel_rfl) (by kernel_rfl) (by kernel_rfl) (fun _ _ _ h => h) (Or.inl ⟨by kernel_rfl, ?_⟩) (by assumption) ?_
              rotate_left
              · (intro w hSw; (try dsimp only at hSw); go_simp; (first | done | with_reducible rfl))
              (try simp only [Act.put, List.setIfInBounds_toArray, List.set_cons_zero, List.set_cons_succ])
              refine wpAnyH_ready (rs := [22]) (by kernel_rfl) (by simp) ?_
              refine AllReadyH.cons rfl (fun K hK => ?_) AllReadyH.nil
              go_simp
              refine hK.out _ _ ?_ (fun hHeld7 => ?_)
              · (try dsimp only)
                first | exact x1 | exact x1a | exact x7 | exact x7a | exact x12 | exact x19 | exact x22 | exact cell_far (g := db) (b := n) (i := 1) (j := 1) (show db ≠ n from fun e => H3.out.2.2.2.2 (e ▸ H3.out.1.oD)) _ x19
              clear hK K hHeld6
              (try simp only [Act.put, List.setIfInBounds_toArray, List.set_cons_zero, List.set_cons_succ])
              refine wpAnyH_done (by kernel_rfl) ?_ _
              go_wp2
              all_goals
                (try simp only [Exit.inBlock, Exit.then])
                first
                | go_end0
                | refine bodyPost_ret (results_none rfl _ _ _) rfl ?_
                obtain ⟨z1, z2, z3, z4, z5, z6⟩ := HEND.out _ _ _ HC.out HX19.out
                first | exact ⟨rfl, z1, z2, z3, z4, z5, z6⟩ | exact ⟨rfl, z1, z2, ⟨z3, z4, z5⟩, z6⟩ | (have hq0 : pl + 1 + (l.length - pl) = pl + 1 := (by omega); rw [hq0] at z5 z6; exact ⟨rfl, z1, z2, z3, z4, z5, z6⟩)
            refine AllReadyH.cons (o := ⟨some 64, _, _, _, _, _⟩) rfl (fun K hK => ?_) AllReadyH.nil
            go_simp
            refine hK.out _ _ ?_ (fun hHeld3 => ?_)
            · (try dsimp only)
              first | exact x1 | exact x1a | exact x7 | exact x7a | exact x12 | exact x19 | exact x22 | exact cell_far (g := db) (b := n) (i := 1) (j := 1) (show db ≠ n from fun e => H3.out.2.2.2.2 (e ▸ H3.out.1.oD)) _ x19
            clear hK K hHeld2
            (try simp only [Act.put, List.setIfInBounds_toArray, List.set_cons_zero, List.set_cons_succ])
            refine wpAnyH_ready (rs := [7]) (by kernel_rfl) (by simp) ?_
            refine AllReadyH.cons (o := ⟨some 60, _, _, _, _, _⟩) rfl (fun K hK => ?_) AllReadyH.nil
            refine step_append_all (by rfl) _ _ _ (by rfl) W3.heap.size 94 j0 _ 2 40 Tryz.underlying71 HJ.out.1 HJ.out.2.1 HJ.out.2.2.1 HJ.out.2.2.2 rfl (by omega) (.slice none 0 0) 0 [] (by rfl) (World.ownsRow_nil _ _ _ _) _ _ _ (rowC fileC (l.take pl) (vl.take pl)) (by rfl) (by have h := HU.out.2.2.1; omega) (by first | exact HNT.out _ HC.out | exact HNT.out _ HC.out.drew | exact HNT.out _ (HC.out.alloc _) | exact HNT.out _ (HC.out.alloc _).drew) HU.out.1 pl (by omega) (rowC fileC (l.take pl) (vl.take pl)) (List.nil_append _) (by unfold maxLen; omega) (by omega) (by first | exact HC.out.size | exact HC.out.drew.size | exact (HC.out.alloc _).size | exact (HC.out.alloc _).drew.size) ?_
            intro XA xc w7 ho7 hg7 hat7
            try have HB7 : Hid (Holds w7 W3.heap.size 94 #[.string nm, .slice none 0 0]) := Lib.hid (((Chg.grown hg7).mono (T := fun _ => False) (fun _ _ h => by cases h)).holds (fun h => h) (Holds.new W3 _ _))
            replace HC : Hid (Chg W3 w7 (fun _ => False)) := by
              first
              | exact HC.out.trans ((Chg.grown hg7).mono (fun _ _ h => by cases h)) (fun _ _ h => h)
              | exact HC.out.drew.trans ((Chg.grown hg7).mono (fun _ _ h => by cases h)) (fun _ _ h => h)
              | exact (HC.out.alloc _).trans ((Chg.grown hg7).mono (fun _ _ h => by cases h)) (fun _ _ h => h)
              | exact (HC.out.alloc _).drew.trans ((Chg.grown hg7).mono (fun _ _ h => by cases h)) (fun _ _ h => h)
            have y7 := HYY.out _ HC.out
            have x7 := HC.out.cell (p := ⟨n, 1, none⟩) (fun h => h) HY1.out.2
            have y7a := HYY.out _ (HC.out.alloc (.cells #[.string nm, .slice none 0 0] 94))
            have x7a := (HC.out.alloc (.cells #[.string nm, .slice none 0 0] 94)).cell (p := ⟨n, 1, none⟩) (fun h => h) HY1.out.2
            have HX7 := Lib.hid ho7
            clear ho7 hg7 hat7
            refine hK.out _ _ ?_ (fun hHeld4 => ?_)
            · (try dsimp only)
              first | exact x1 | exact x1a | exact x7 | exact x7a | exact x12 | exact x19 | exact x22 | exact cell_far (g := db) (b := n) (i := 1) (j := 1) (show db ≠ n from fun e => H3.out.2.2.2.2 (e ▸ H3.out.1.oD)) _ x19
            clear hK K hHeld3
            (try simp only [Act.put, List.setIfInBounds_toArray, List.set_cons_zero, List.set_cons_succ])
            refine wpAnyH_ready (rs := [12]) (by kernel_rfl) (by simp) ?_
            refine AllReadyH.cons (o := ⟨some 65, _, _, _, _, _⟩) rfl (fun K hK => ?_) AllReadyH.nil
            refine step_append_all (by rfl) _ _ _ (by rfl) W3.heap.size 94 j0 _ 2 40 Tryz.underlying71 HJ.out.1 HJ.out.2.1 HJ.out.2.2.1 HJ.out.2.2.2 rfl (by omega) (.slice XA pl xc) pl (rowC fileC (l.take pl) (vl.take pl)) (by rfl) (by first | exact HX7.out | exact HX7.out.drew | exact HX7.out.alloc _ | exact (HX7.out.alloc _).drew) _ _ _ [.string nm, .slice none 0 0] (by rfl) (by rfl) (by first | exact fun j u hu => ⟨_, rfl, World.news_of_block (cs := #[.string nm, .slice none 0 0]) (t := 94) (fr := (0, 0)) (heap_alloc_new w7 _) j u hu⟩ | exact fun j u hu => ⟨_, rfl, World.news_of_block (cs := #[.string nm, .slice none 0 0]) (t := 94) (fr := (0, 0)) HB7.out j u hu⟩) (by simp [Value.oneCell']) (pl + 1) rfl (rowC fileC (l.take pl) (vl.take pl) ++ [.string nm, .slice none 0 0]) rfl (by unfold maxLen; omega) (by omega) (by first | exact HC.out.size | exact HC.out.drew.size | exact (HC.out.alloc _).size | exact (HC.out.alloc _).drew.size) ?_
            intro YA yc w12 ho12 hg12 hat12
            replace HC : Hid (Chg W3 w12 (fun _ => False)) := by
              obtain ⟨_, _, _, hzb⟩ := owns_formD HX7.out
              first
              | exact HC.out.trans (Chg.grown hg12) (fun k hk h => by have := (hzb k h.symm).1; omega)
              | exact HC.out.drew.trans (Chg.grown hg12) (fun k hk h => by have := (hzb k h.symm).1; omega)
              | exact (HC.out.alloc _).trans (Chg.grown hg12) (fun k hk h => by have := (hzb k h.symm).1; omega)
              | exact (HC.out.alloc _).drew.trans (Chg.grown hg12) (fun k hk h => by have := (hzb k h.symm).1; omega)
            have y12 := HYY.out _ HC.out
            have x12 := HC.out.cell (p := ⟨n, 1, none⟩) (fun h => h) HY1.out.2
            have HX12 := Lib.hid ho12
            clear ho12 hg12 hat12
            refine hK.out _ _ ?_ (fun hHeld5 => ?_)
            · (try dsimp only)
              first | exact x1 | exact x1a | exact x7 | exact x7a | exact x12 | exact x19 | exact x22 | exact cell_far (g := db) (b := n) (i := 1) (j := 1) (show db ≠ n from fun e => H3.out.2.2.2.2 (e ▸ H3.out.1.oD)) _ x19
            clear hK K hHeld4
            (try simp only [Act.put, List.setIfInBounds_toArray, List.set_cons_zero, List.set_cons_succ])
            refine wpAnyH_ready (rs := [19]) (by kernel_rfl) (by simp) ?_
            refine AllReadyH.cons (o := ⟨some 72, _, _, _, _, _⟩) rfl (fun K hK => ?_) AllReadyH.nil
            refine step_append_all (by rfl) _ _ _ (by rfl) W3.heap.size 94 j0 _ 2 40 Tryz.underlying71 HJ.out.1 HJ.out.2.1 HJ.out.2.2.1 HJ.out.2.2.2 rfl (by omega) (.slice YA (pl + 1) yc) (pl + 1) (rowC fileC (l.take pl) (vl.take pl) ++ [.string nm, .slice none 0 0]) (by rfl) (by first | exact HX12.out | exact HX12.out.drew) _ _ _ (rowC fileC (l.drop pl) (vl.drop pl)) (by rfl) (by have h := HU.out.2.2.2; omega) (by first | exact HND.out _ HC.out | exact HND.out _ HC.out.drew) HU.out.2.1 (pl + 1 + (l.length - pl)) (by omega) ((rowC fileC (l.take pl) (vl.take pl) ++ [.string nm, .slice none 0 0]) ++ rowC fileC (l.drop pl) (vl.drop pl)) rfl (by unfold maxLen; omega) (by omega) (by first | exact HC.out.size | exact HC.out.drew.size) ?_
            intro ZA zc w19 ho19 hg19 hat19
            replace HC : Hid (Chg W3 w19 (fun _ => False)) := by
              obtain ⟨_, _, _, hzb⟩ := owns_formD HX12.out
              first
              | exact HC.out.trans (Chg.grown hg19) (fun k hk h => by have := (hzb k h.symm).1; omega)
              | exact HC.out.drew.trans (Chg.grown hg19) (fun k hk h => by have := (hzb k h.symm).1; omega)
            have y19 := HYY.out _ HC.out
            have x19 := HC.out.cell (p := ⟨n, 1, none⟩) (fun h => h) HY1.out.2
            have q19 := (HC.out.holds (fun h => h) H3.out.1.hold).free 1
            have x22 := cell_far (g := db) (b := n) (i := 1) (j := 1) (show db ≠ n from fun e => H3.out.2.2.2.2 (e ▸ H3.out.1.oD)) (.slice ZA (pl + 1 + (l.length - pl)) zc) x19
            have HX19 := Lib.hid ho19
            clear ho19 hg19 hat19
            refine hK.out _ _ ?_ (fun hHeld6 => ?_)
            · (try dsimp only)
              first | exact x1 | exact x1a | exact x7 | exact x7a | exact x12 | exact x19 | exact x22 | exact cell_far (g := db) (b := n) (i := 1) (j := 1) (show db ≠ n from fun e => H3.out.2.2.2.2 (e ▸ H3.out.1.oD)) _ x19
            clear hK K hHeld5
            (try simp only [Act.put, List.setIfInBounds_toArray, List.set_cons_zero, List.set_cons_succ])
            refine wpAnyH_take (i := 20) (oi := ⟨some 73, _, _, _, _, _⟩) (v := ?_) rfl (by kernel_rfl) (by kernel_rfl) (by kernel_rfl) (fun _ _ _ h => h) (Or.inl ⟨by kernel_rfl, ?_⟩) (by assumption) ?_
            rotate_left
            · (intro w hSw; (try dsimp only at hSw); go_simp; (first | done | with_reducible rfl))
            (try simp only [Act.put, List.setIfInBounds_toArray, List.set_cons_zero, List.set_cons_succ])
            refine wpAnyH_take (i := 21) (oi := ⟨some 74, _, _, _, _, _⟩) (v := ?_) rfl (by kernel_rfl) (by kernel_rfl) (by kernel_rfl) (fun _ _ _ h => h) (Or.inl ⟨by kernel_rfl, ?_⟩) (by assumption) ?_
            rotate_left
            · (intro w hSw; (try dsimp only at hSw); go_simp; (first | done | with_reducible rfl))
            (try simp only [Act.put, List.setIfInBounds_toArray, List.set_cons_zero, List.set_cons_succ])
            refine wpAnyH_ready (rs := [22]) (by kernel_rfl) (by simp) ?_
            refine AllReadyH.cons rfl (fun K hK => ?_) AllReadyH.nil
            go_simp
            refine hK.out _ _ ?_ (fun hHeld7 => ?_)
            · (try dsimp only)
              first | exact x1 | exact x1a | exact x7 | exact x7a | exact x12 | exact x19 | exact x22 | exact cell_far (g := db) (b := n) (i := 1) (j := 1) (show db ≠ n from fun e => H3.out.2.2.2.2 (e ▸ H3.out.1.oD)) _ x19
            clear hK K hHeld6
            (try simp only [Act.put, List.setIfInBounds_toArray, List.set_cons_zero, List.set_cons_succ])
            refine wpAnyH_done (by kernel_rfl) ?_ _
            go_wp2
            all_goals
              (try simp only [Exit.inBlock, Exit.then])
              first
              | go_end0
              | refine bodyPost_ret (results_none rfl _ _ _) rfl ?_
              obtain ⟨z1, z2, z3, z4, z5, z6⟩ := HEND.out _ _ _ HC.out HX19.out
              first | exact ⟨rfl, z1, z2, z3, z4, z5, z6⟩ | exact ⟨rfl, z1, z2, ⟨z3, z4, z5⟩, z6⟩ | (have hq0 : pl + 1 + (l.length - pl) = pl + 1 := (by omega); rw [hq0] at z5 z6; exact ⟨rfl, z1, z2, z3, z4, z5, z6⟩)
          refine AllReadyH.cons (o := ⟨some 64, _, _, _, _, _⟩) rfl (fun K hK => ?_) ?_
          · skip
            go_simp
            refine hK.out _ _ ?_ (fun hHeld1 => ?_)
            · (try dsimp only)
              first | exact x1 | exact x1a | exact x7 | exact x7a | exact x12 | exact x19 | exact x22 | exact cell_far (g := db) (b := n) (i := 1) (j := 1) (show db ≠ n from fun e => H3.out.2.2.2.2 (e ▸ H3.out.1.oD)) _ x19
            clear hK K hHeld0
            (try simp only [Act.put, List.setIfInBounds_toArray, List.set_cons_zero, List.set_cons_succ])
            refine wpAnyH_ready (rs := [4, 16]) (by kernel_rfl) (by simp) ?_
            refine AllReadyH.cons (o := ⟨some 57, _, _, _, _, _⟩) rfl (fun K hK => ?_) ?_
            · skip
              go_simp
              refine hK.out _ _ ?_ (fun hHeld2 => ?_)
              · (try dsimp only)
                first | exact x1 | exact x1a | exact x7 | exact x7a | exact x12 | exact x19 | exact x22 | exact cell_far (g := db) (b := n) (i := 1) (j := 1) (show db ≠ n from fun e => H3.out.2.2.2.2 (e ▸ H3.out.1.oD)) _ x19
              clear hK K hHeld1
              (try simp only [Act.put, List.setIfInBounds_toArray, List.set_cons_zero, List.set_cons_succ])
              refine wpAnyH_take (i := 6) (oi := ⟨some 59, _, _, _, _, _⟩) (v := ?_) rfl (by kernel_rfl) (by kernel_rfl) (by kernel_rfl) (fun _ _ _ h => h) (Or.inl ⟨by kernel_rfl, ?_⟩) (by assumption) ?_
              rotate_left
              · (intro w hSw; (try dsimp only at hSw); go_simp; (first | done | with_reducible rfl))
              (try simp only [Act.put, List.setIfInBounds_toArray, List.set_cons_zero, List.set_cons_succ])
              refine wpAnyH_ready (rs := [7, 16]) (by kernel_rfl) (by simp) ?_
              refine AllReadyH.cons (o := ⟨some 60, _, _, _, _, _⟩) rfl (fun K hK => ?_) ?_
              · skip
                refine step_append_all (by rfl) _ _ _ (by rfl) W3.heap.size 94 j0 _ 2 40 Tryz.underlying71 HJ.out.1 HJ.out.2.1 HJ.out.2.2.1 HJ.out.2.2.2 rfl (by omega) (.slice none 0 0) 0 [] (by rfl) (World.ownsRow_nil _ _ _ _) _ _ _ (rowC fileC (l.take pl) (vl.take pl)) (by rfl) (by have h := HU.out.2.2.1; omega) (by first | exact HNT.out _ HC.out | exact HNT.out _ HC.out.drew | exact HNT.out _ (HC.out.alloc _) | exact HNT.out _ (HC.out.alloc _).drew) HU.out.1 pl (by omega) (rowC fileC (l.take pl) (vl.take pl)) (List.nil_append _) (by unfold maxLen; omega) (by omega) (by first | exact HC.out.size | exact HC.out.drew.size | exact (HC.out.alloc _).size | exact (HC.out.alloc _).drew.size) ?_
                intro XA xc w7 ho7 hg7 hat7
                try have HB7 : Hid (Holds w7 W3.heap.size 94 #[.string nm, .slice none 0 0]) := Lib.hid (((Chg.grown hg7).mono (T := fun _ => False) (fun _ _ h => by cases h)).holds (fun h => h) (Holds.new W3 _ _))
                replace HC : Hid (Chg W3 w7 (fun _ => False)) := by
                  first
                  | exact HC.out.trans ((Chg.grown hg7).mono (fun _ _ h => by cases h)) (fun _ _ h => h)
                  | exact HC.out.drew.trans ((Chg.grown hg7).mono (fun _ _ h => by cases h)) (fun _ _ h => h)
                  | exact (HC.out.alloc _).trans ((Chg.grown hg7).mono (fun _ _ h => by cases h)) (fun _ _ h => h)
                  | exact (HC.out.alloc _).drew.trans ((Chg.grown hg7).mono (fun _ _ h => by cases h)) (fun _ _ h => h)
                have y7 := HYY.out _ HC.out
                have x7 := HC.out.cell (p := ⟨n, 1, none⟩) (fun h => h) HY1.out.2
                have y7a := HYY.out _ (HC.out.alloc (.cells #[.string nm, .slice none 0 0] 94))
                have x7a := (HC.out.alloc (.cells #[.string nm, .slice none 0 0] 94)).cell (p := ⟨n, 1, none⟩) (fun h => h) HY1.out.2
                have HX7 := Lib.hid ho7
                clear ho7 hg7 hat7
                refine hK.out _ _ ?_ (fun hHeld3 => ?_)
                · (try dsimp only)
                  first | exact x1 | exact x1a | exact x7 | exact x7a | exact x12 | exact x19 | exact x22 | exact cell_far (g := db) (b := n) (i := 1) (j := 1) (show db ≠ n from fun e => H3.out.2.2.2.2 (e ▸ H3.out.1.oD)) _ x19
                clear hK K hHeld2
                (try simp only [Act.put, List.setIfInBounds_toArray, List.set_cons_zero, List.set_cons_succ])
                refine wpAnyH_ready (rs := [12, 16]) (by kernel_rfl) (by simp) ?_
                refine AllReadyH.cons (o := ⟨some 65, _, _, _, _, _⟩) rfl (fun K hK => ?_) ?_
                · skip
                  refine step_append_all (by rfl) _ _ _ (by rfl) W3.heap.size 94 j0 _ 2 40 Tryz.underlying71 HJ.out.1 HJ.out.2.1 HJ.out.2.2.1 HJ.out.2.2.2 rfl (by omega) (.slice XA pl xc) pl (rowC fileC (l.take pl) (vl.take pl)) (by rfl) (by first | exact HX7.out | exact HX7.out.drew | exact HX7.out.alloc _ | exact (HX7.out.alloc _).drew) _ _ _ [.string nm, .slice none 0 0] (by rfl) (by rfl) (by first | exact fun j u hu => ⟨_, rfl, World.news_of_block (cs := #[.string nm, .slice none 0 0]) (t := 94) (fr := (0, 0)) (heap_alloc_new w7 _) j u hu⟩ | exact fun j u hu => ⟨_, rfl, World.news_of_block (cs := #[.string nm, .slice none 0 0]) (t := 94) (fr := (0, 0)) HB7.out j u hu⟩) (by simp [Value.oneCell']) (pl + 1) rfl (rowC fileC (l.take pl) (vl.take pl) ++ [.string nm, .slice none 0 0]) rfl (by unfold maxLen; omega) (by omega) (by first | exact HC.out.size | exact HC.out.drew.size | exact (HC.out.alloc _).size | exact (HC.out.alloc _).drew.size) ?_
                  intro YA yc w12 ho12 hg12 hat12
                  replace HC : Hid (Chg W3 w12 (fun _ => False)) := by
                    obtain ⟨_, _, _, hzb⟩ := owns_formD HX7.out
                    first
                    | exact HC.out.trans (Chg.grown hg12) (fun k hk h => by have := (hzb k h.symm).1; omega)
                    | exact HC.out.drew.trans (Chg.grown hg12) (fun k hk h => by have := (hzb k h.symm).1; omega)
                    | exact (HC.out.alloc _).trans (Chg.grown hg12) (fun k hk h => by have := (hzb k h.symm).1; omega)
                    | exact (HC.out.alloc _).drew.trans (Chg.grown hg12) (fun k hk h => by have := (hzb k h.symm).1; omega)
                  have y12 := HYY.out _ HC.out
                  have x12 := HC.out.cell (p := ⟨n, 1, none⟩) (fun h => h) HY1.out.2
                  have HX12 := Lib.hid ho12
                  clear ho12 hg12 hat12
                  refine hK.out _ _ ?_ (fun hHeld4 => ?_)
                  · (try dsimp only)
                    first | exact x1 | exact x1a | exact x7 | exact x7a | exact x12 | exact x19 | exact x22 | exact cell_far (g := db) (b := n) (i := 1) (j := 1) (show db ≠ n from fun e => H3.out.2.2.2.2 (e ▸ H3.out.1.oD)) _ x19
                  clear hK K hHeld3
                  (try simp only [Act.put, List.setIfInBounds_toArray, List.set_cons_zero, List.set_cons_succ])
                  refine wpAnyH_ready (rs := [16]) (by kernel_rfl) (by simp) ?_
                  refine AllReadyH.cons (o := ⟨some 69, _, _, _, _, _⟩) rfl (fun K hK => ?_) AllReadyH.nil
                  go_simp
                  refine hK.out _ _ ?_ (fun hHeld5 => ?_)
                  · (try dsimp only)
                    first | exact x1 | exact x1a | exact x7 | exact x7a | exact x12 | exact x19 | exact x22 | exact cell_far (g := db) (b := n) (i := 1) (j := 1) (show db ≠ n from fun e => H3.out.2.2.2.2 (e ▸ H3.out.1.oD)) _ x19
                  clear hK K hHeld4
                  (try simp only [Act.put, List.setIfInBounds_toArray, List.set_cons_zero, List.set_cons_succ])
                  refine wpAnyH_take (i := 18) (oi := ⟨some 71, _, _, _, _, _⟩) (v := ?_) rfl (by kernel_rfl) (by kernel_rfl) (by kernel_rfl) (fun _ _ _ h => h) (Or.inl ⟨by kernel_rfl, ?_⟩) (by assumption) ?_
                  rotate_left
                  · (intro w hSw; (try dsimp only at hSw); go_simp; (first | done | with_reducible rfl))
                  (try simp only [Act.put, List.setIfInBounds_toArray, List.set_cons_zero, List.set_cons_succ])
                  refine wpAnyH_ready (rs := [19]) (by kernel_rfl) (by simp) ?_
                  refine AllReadyH.cons (o := ⟨some 72, _, _, _, _, _⟩) rfl (fun K hK => ?_) AllReadyH.nil
                  refine step_append_all (by rfl) _ _ _ (by rfl) W3.heap.size 94 j0 _ 2 40 Tryz.underlying71 HJ.out.1 HJ.out.2.1 HJ.out.2.2.1 HJ.out.2.2.2 rfl (by omega) (.slice YA (pl + 1) yc) (pl + 1) (rowC fileC (l.take pl) (vl.take pl) ++ [.string nm, .slice none 0 0]) (by rfl) (by first | exact HX12.out | exact HX12.out.drew) _ _ _ (rowC fileC (l.drop pl) (vl.drop pl)) (by rfl) (by have h := HU.out.2.2.2; omega) (by first | exact HND.out _ HC.out | exact HND.out _ HC.out.drew) HU.out.2.1 (pl + 1 + (l.length - pl)) (by omega) ((rowC fileC (l.take pl) (vl.take pl) ++ [.string nm, .slice none 0 0]) ++ rowC fileC (l.drop pl) (vl.drop pl)) rfl (by unfold maxLen; omega) (by omega) (by first | exact HC.out.size | exact HC.out.drew.size) ?_
                  intro ZA zc w19 ho19 hg19 hat19
                  replace HC : Hid (Chg W3 w19 (fun _ => False)) := by
                    obtain ⟨_, _, _, hzb⟩ := owns_formD HX12.out
                    first
                    | exact HC.out.trans (Chg.grown hg19) (fun k hk h => by have := (hzb k h.symm).1; omega)
                    | exact HC.out.drew.trans (Chg.grown hg19) (fun k hk h => by have := (hzb k h.symm).1; omega)
                  have y19 := HYY.out _ HC.out
                  have x19 := HC.out.cell (p := ⟨n, 1, none⟩) (fun h => h) HY1.out.2
                  have q19 := (HC.out.holds (fun h => h) H3.out.1.hold).free 1
                  have x22 := cell_far (g := db) (b := n) (i := 1) (j := 1) (show db ≠ n from fun e => H3.out.2.2.2.2 (e ▸ H3.out.1.oD)) (.slice ZA (pl + 1 + (l.length - pl)) zc) x19
                  have HX19 := Lib.hid ho19
                  clear ho19 hg19 hat19
                  refine hK.out _ _ ?_ (fun hHeld6 => ?_)
                  · (try dsimp only)
                    first | exact x1 | exact x1a | exact x7 | exact x7a | exact x12 | exact x19 | exact x22 | exact cell_far (g := db) (b := n) (i := 1) (j := 1) (show db ≠ n from fun e => H3.out.2.2.2.2 (e ▸ H3.out.1.oD)) _ x19
                  clear hK K hHeld5
                  (try simp only [Act.put, List.setIfInBounds_toArray, List.set_cons_zero, List.set_cons_succ])
                  refine wpAnyH_take (i := 20) (oi := ⟨some 73, _, _, _, _, _⟩) (v := ?_) rfl (by kernel_rfl) (by kernel_rfl) (by kernel_rfl) (fun _ _ _ h => h) (Or.inl ⟨by kernel_rfl, ?_⟩) (by assumption) ?_
                  rotate_left
                  · (intro w hSw; (try dsimp only at hSw); go_simp; (first | done | with_reducible rfl))
                  (try simp only [Act.put, List.setIfInBounds_toArray, List.set_cons_zero, List.set_cons_succ])
                  refine wpAnyH_take (i := 21) (oi := ⟨some 74, _, _, _, _, _⟩) (v := ?_) rfl (by kernel_rfl) (by kernel_rfl) (by kernel_rfl) (fun _ _ _ h => h) (Or.inl ⟨by kernel_rfl, ?_⟩) (by assumption) ?_
                  rotate_left
                  · (intro w hSw; (try dsimp only at hSw); go_simp; (first | done | with_reducible rfl))
                  (try simp only [Act.put, List.setIfInBounds_toArray, List.set_cons_zero, List.set_cons_succ])
                  refine wpAnyH_ready (rs := [22]) (by kernel_rfl) (by simp) ?_
                  refine AllReadyH.cons rfl (fun K hK => ?_) AllReadyH.nil
                  go_simp
                  refine hK.out _ _ ?_ (fun hHeld7 => ?_)
                  · (try dsimp only)
                    first | exact x1 | exact x1a | exact x7 | exact x7a | exact x12 | exact x19 | exact x22 | exact cell_far (g := db) (b := n) (i := 1) (j := 1) (show db ≠ n from fun e => H3.out.2.2.2.2 (e ▸ H3.out.1.oD)) _ x19
                  clear hK K hHeld6
                  (try simp only [Act.put, List.setIfInBounds_toArray, List.set_cons_zero, List.set_cons_succ])
                  refine wpAnyH_done (by kernel_rfl) ?_ _
                  go_wp2
                  all_goals
                    (try simp only [Exit.inBlock, Exit.then])
                    first
                    | go_end0
                    | refine bodyPost_ret (results_none rfl _ _ _) rfl ?_
                    obtain ⟨z1, z2, z3, z4, z5, z6⟩ := HEND.out _ _ _ HC.out HX19.out
                    first | exact ⟨rfl, z1, z2, z3, z4, z5, z6⟩ | exact ⟨rfl, z1, z2, ⟨z3, z4, z5⟩, z6⟩ | (have hq0 : pl + 1 + (l.length - pl) = pl + 1 := (by omega); rw [hq0] at z5 z6; exact ⟨rfl, z1, z2, z3, z4, z5, z6⟩)
                refine AllReadyH.cons (o := ⟨some 69, _, _, _, _, _⟩) rfl (fun K hK => ?_) AllReadyH.nil
                go_simp
                refine hK.out _ _ ?_ (fun hHeld4 => ?_)
                · (try dsimp only)
                  first | exact x1 | exact x1a | exact x7 | exact x7a | exact x12 | exact x19 | exact x22 | exact cell_far (g := db) (b := n) (i := 1) (j := 1) (show db ≠ n from fun e => H3.out.2.2.2.2 (e ▸ H3.out.1.oD)) _ x19
                clear hK K hHeld3
                (try simp only [Act.put, List.setIfInBounds_toArray, List.set_cons_zero, List.set_cons_succ])
                refine wpAnyH_take (i := 18) (oi := ⟨some 71, _, _, _, _, _⟩) (v := ?_) rfl (by kernel_rfl) (by kernel_rfl) (by kernel_rfl) (fun _ _ _ h => h) (Or.inl ⟨by kernel_rfl, ?_⟩) (by assumption) ?_
                rotate_left
                · (intro w hSw; (try dsimp only at hSw); go_simp; (first | done | with_reducible rfl))
                (try simp only [Act.put, List.setIfInBounds_toArray, List.set_cons_zero, List.set_cons_succ])
                refine wpAnyH_ready (rs := [12]) (by kernel_rfl) (by simp) ?_
                refine AllReadyH.cons (o := ⟨some 65, _, _, _, _, _⟩) rfl (fun K hK => ?_) AllReadyH.nil
                refine step_append_all (by rfl) _ _ _ (by rfl) W3.heap.size 94 j0 _ 2 40 Tryz.underlying71 HJ.out.1 HJ.out.2.1 HJ.out.2.2.1 HJ.out.2.2.2 rfl (by omega) (.slice XA pl xc) pl (rowC fileC (l.take pl) (vl.take pl)) (by rfl) (by first | exact HX7.out | exact HX7.out.drew | exact HX7.out.alloc _ | exact (HX7.out.alloc _).drew) _ _ _ [.string nm, .slice none 0 0] (by rfl) (by rfl) (by first | exact fun j u hu => ⟨_, rfl, World.news_of_block (cs := #[.string nm, .slice none 0 0]) (t := 94) (fr := (0, 0)) (heap_alloc_new w7 _) j u hu⟩ | exact fun j u hu => ⟨_, rfl, World.news_of_block (cs := #[.string nm, .slice none 0 0]) (t := 94) (fr := (0, 0)) HB7.out j u hu⟩) (by simp [Value.oneCell']) (pl + 1) rfl (rowC fileC (l.take pl) (vl.take pl) ++ [.string nm, .slice none 0 0]) rfl (by unfold maxLen; omega) (by omega) (by first | exact HC.out.size | exact HC.out.drew.size | exact (HC.out.alloc _).size | exact (HC.out.alloc _).drew.size) ?_
                intro YA yc w12 ho12 hg12 hat12
                replace HC : Hid (Chg W3 w12 (fun _ => False)) := by
                  obtain ⟨_, _, _, hzb⟩ := owns_formD HX7.out
                  first
                  | exact HC.out.trans (Chg.grown hg12) (fun k hk h => by have := (hzb k h.symm).1; omega)
                  | exact HC.out.drew.trans (Chg.grown hg12) (fun k hk h => by have := (hzb k h.symm).1; omega)
                  | exact (HC.out.alloc _).trans (Chg.grown hg12) (fun k hk h => by have := (hzb k h.symm).1; omega)
                  | exact (HC.out.alloc _).drew.trans (Chg.grown hg12) (fun k hk h => by have := (hzb k h.symm).1; omega)
                have y12 := HYY.out _ HC.out
                have x12 := HC.out.cell (p := ⟨n, 1, none⟩) (fun h => h) HY1.out.2
                have HX12 := Lib.hid ho12
                clear ho12 hg12 hat12
                refine hK.out _ _ ?_ (fun hHeld5 => ?_)
                · (try dsimp only)
                  first | exact x1 | exact x1a | exact x7 | exact x7a | exact x12 | exact x19 | exact x22 | exact cell_far (g := db) (b := n) (i := 1) (j := 1) (show db ≠ n from fun e => H3.out.2.2.2.2 (e ▸ H3.out.1.oD)) _ x19
                clear hK K hHeld4
                (try simp only [Act.put, List.setIfInBounds_toArray, List.set_cons_zero, List.set_cons_succ])
                refine wpAnyH_ready (rs := [19]) (by kernel_rfl) (by simp) ?_
                refine AllReadyH.cons (o := ⟨some 72, _, _, _, _, _⟩) rfl (fun K hK => ?_) AllReadyH.nil
                refine step_append_all (by rfl) _ _ _ (by rfl) W3.heap.size 94 j0 _ 2 40 Tryz.underlying71 HJ.out.1 HJ.out.2.1 HJ.out.2.2.1 HJ.out.2.2.2 rfl (by omega) (.slice YA (pl + 1) yc) (pl + 1) (rowC fileC (l.take pl) (vl.take pl) ++ [.string nm, .slice none 0 0]) (by rfl) (by first | exact HX12.out | exact HX12.out.drew) _ _ _ (rowC fileC (l.drop pl) (vl.drop pl)) (by rfl) (by have h := HU.out.2.2.2; omega) (by first | exact HND.out _ HC.out | exact HND.out _ HC.out.drew) HU.out.2.1 (pl + 1 + (l.length - pl)) (by omega) ((rowC fileC (l.take pl) (vl.take pl) ++ [.string nm, .slice none 0 0]) ++ rowC fileC (l.drop pl) (vl.drop pl)) rfl (by unfold maxLen; omega) (by omega) (by first | exact HC.out.size | exact HC.out.drew.size) ?_
                intro ZA zc w19 ho19 hg19 hat19
                replace HC : Hid (Chg W3 w19 (fun _ => False)) := by
                  obtain ⟨_, _, _, hzb⟩ := owns_formD HX12.out
                  first
                  | exact HC.out.trans (Chg.grown hg19) (fun k hk h => by have := (hzb k h.symm).1; omega)
                  | exact HC.out.drew.trans (Chg.grown hg19) (fun k hk h => by have := (hzb k h.symm).1; omega)
                have y19 := HYY.out _ HC.out
                have x19 := HC.out.cell (p := ⟨n, 1, none⟩) (fun h => h) HY1.out.2
                have q19 := (HC.out.holds (fun h => h) H3.out.1.hold).free 1
                have x22 := cell_far (g := db) (b := n) (i := 1) (j := 1) (show db ≠ n from fun e => H3.out.2.2.2.2 (e ▸ H3.out.1.oD)) (.slice ZA (pl + 1 + (l.length - pl)) zc) x19
                have HX19 := Lib.hid ho19
                clear ho19 hg19 hat19
                refine hK.out _ _ ?_ (fun hHeld6 => ?_)
                · (try dsimp only)
                  first | exact x1 | exact x1a | exact x7 | exact x7a | exact x12 | exact x19 | exact x22 | exact cell_far (g := db) (b := n) (i := 1) (j := 1) (show db ≠ n from fun e => H3.out.2.2.2.2 (e ▸ H3.out.1.oD)) _ x19
                clear hK K hHeld5
                (try simp only [Act.put, List.setIfInBounds_toArray, List.set_cons_zero, List.set_cons_succ])
                refine wpAnyH_take (i := 20) (oi := ⟨some 73, _, _, _, _, _⟩) (v := ?_) rfl (by kernel_rfl) (by kernel_rfl) (by kernel_rfl) (fun _ _ _ h => h) (Or.inl ⟨by kernel_rfl, ?_⟩) (by assumption) ?_
                rotate_left
                · (intro w hSw; (try dsimp only at hSw); go_simp; (first | done | with_reducible rfl))
                (try simp only [Act.put, List.setIfInBounds_toArray, List.set_cons_zero, List.set_cons_succ])
                refine wpAnyH_take (i := 21) (oi := ⟨some 74, _, _, _, _, _⟩) (v := ?_) rfl (by kernel_rfl) (by kernel_rfl) (by kernel_rfl) (fun _ _ _ h => h) (Or.inl ⟨by kernel_rfl, ?_⟩) (by assumption) ?_
                rotate_left
                · (intro w hSw; (try dsimp only at hSw); go_simp; (first | done | with_reducible rfl))
                (try simp only [Act.put, List.setIfInBounds_toArray, List.set_cons_zero, List.set_cons_succ])
                refine wpAnyH_ready (rs := [22]) (by kernel_rfl) (by simp) ?_
                refine AllReadyH.cons rfl (fun K hK => ?_) AllReadyH.nil
                go_simp
                refine hK.out _ _ ?_ (fun hHeld7 => ?_)
                · (try dsimp only)
                  first | exact x1 | exact x1a | exact x7 | exact x7a | exact x12 | exact x19 | exact x22 | exact cell_far (g := db) (b := n) (i := 1) (j := 1) (show db ≠ n from fun e => H3.out.2.2.2.2 (e ▸ H3.out.1.oD)) _ x19
                clear hK K hHeld6
                (try simp only [Act.put, List.setIfInBounds_toArray, List.set_cons_zero, List.set_cons_succ])
                refine wpAnyH_done (by kernel_rfl) ?_ _
                go_wp2
                all_goals
                  (try simp only [Exit.inBlock, Exit.then])
                  first
                  | go_end0
                  | refine bodyPost_ret (results_none rfl _ _ _) rfl ?_
                  obtain ⟨z1, z2, z3, z4, z5, z6⟩ := HEND.out _ _ _ HC.out HX19.out
                  first | exact ⟨rfl, z1, z2, z3, z4, z5, z6⟩ | exact ⟨rfl, z1, z2, ⟨z3, z4, z5⟩, z6⟩ | (have hq0 : pl + 1 + (l.length - pl) = pl + 1 := (by omega); rw [hq0] at z5 z6; exact ⟨rfl, z1, z2, z3, z4, z5, z6⟩)
              refine AllReadyH.cons (o := ⟨some 69, _, _, _, _, _⟩) rfl (fun K hK => ?_) AllReadyH.nil
              go_simp
              refine hK.out _ _ ?_ (fun hHeld3 => ?_)
              · (try dsimp only)
                first | exact x1 | exact x1a | exact x7 | exact x7a | exact x12 | exact x19 | exact x22 | exact cell_far (g := db) (b := n) (i := 1) (j := 1) (show db ≠ n from fun e => H3.out.2.2.2.2 (e ▸ H3.out.1.oD)) _ x19
              clear hK K hHeld2
              (try simp only [Act.put, List.setIfInBounds_toArray, List.set_cons_zero, List.set_cons_succ])
              refine wpAnyH_take (i := 18) (oi := ⟨some 71, _, _, _, _, _⟩) (v := ?_) rfl (by kernel_rfl) (by kernel_rfl) (by kernel_rfl) (fun _ _ _ h => h) (Or.inl ⟨by kernel_rfl, ?_⟩) (by assumption) ?_
              rotate_left
              · (intro w hSw; (try dsimp only at hSw); go_simp; (first | done | with_reducible rfl))
              (try simp only [Act.put, List.setIfInBounds_toArray, List.set_cons_zero, List.set_cons_succ])
              refine wpAnyH_ready (rs := [7]) (by kernel_rfl) (by simp) ?_
              refine AllReadyH.cons (o := ⟨some 60, _, _, _, _, _⟩) rfl (fun K hK => ?_) AllReadyH.nil
              refine step_append_all (by rfl) _ _ _ (by rfl) W3.heap.size 94 j0 _ 2 40 Tryz.underlying71 HJ.out.1 HJ.out.2.1 HJ.out.2.2.1 HJ.out.2.2.2 rfl (by omega) (.slice none 0 0) 0 [] (by rfl) (World.ownsRow_nil _ _ _ _) _ _ _ (rowC fileC (l.take pl) (vl.take pl)) (by rfl) (by have h := HU.out.2.2.1; omega) (by first | exact HNT.out _ HC.out | exact HNT.out _ HC.out.drew | exact HNT.out _ (HC.out.alloc _) | exact HNT.out _ (HC.out.alloc _).drew) HU.out.1 pl (by omega) (rowC fileC (l.take pl) (vl.take pl)) (List.nil_append _) (by unfold maxLen; omega) (by omega) (by first | exact HC.out.size | exact HC.out.drew.size | exact (HC.out.alloc _).size | exact (HC.out.alloc _).drew.size) ?_
              intro XA xc w7 ho7 hg7 hat7
              try have HB7 : Hid (Holds w7 W3.heap.size 94 #[.string nm, .slice none 0 0]) := Lib.hid (((Chg.grown hg7).mono (T := fun _ => False) (fun _ _ h => by cases h)).holds (fun h => h) (Holds.new W3 _ _))
              replace HC : Hid (Chg W3 w7 (fun _ => False)) := by
                first
                | exact HC.out.trans ((Chg.grown hg7).mono (fun _ _ h => by cases h)) (fun _ _ h => h)
                | exact HC.out.drew.trans ((Chg.grown hg7).mono (fun _ _ h => by cases h)) (fun _ _ h => h)
                | exact (HC.out.alloc _).trans ((Chg.grown hg7).mono (fun _ _ h => by cases h)) (fun _ _ h => h)
                | exact (HC.out.alloc _).drew.trans ((Chg.grown hg7).mono (fun _ _ h => by cases h)) (fun _ _ h => h)
              have y7 := HYY.out _ HC.out
              have x7 := HC.out.cell (p := ⟨n, 1, none⟩) (fun h => h) HY1.out.2
              have y7a := HYY.out _ (HC.out.alloc (.cells #[.string nm, .slice none 0 0] 94))
              have x7a := (HC.out.alloc (.cells #[.string nm, .slice none 0 0] 94)).cell (p := ⟨n, 1, none⟩) (fun h => h) HY1.out.2
              have HX7 := Lib.hid ho7
              clear ho7 hg7 hat7
              refine hK.out _ _ ?_ (fun hHeld4 => ?_)
              · (try dsimp only)
                first | exact x1 | exact x1a | exact x7 | exact x7a | exact x12 | exact x19 | exact x22 | exact cell_far (g := db) (b := n) (i := 1) (j := 1) (show db ≠ n from fun e => H3.out.2.2.2.2 (e ▸ H3.out.1.oD)) _ x19
              clear hK K hHeld3
              (try simp only [Act.put, List.setIfInBounds_toArray, List.set_cons_zero, List.set_cons_succ])
              refine wpAnyH_ready (rs := [12]) (by kernel_rfl) (by simp) ?_
              refine AllReadyH.cons (o := ⟨some 65, _, _, _, _, _⟩) rfl (fun K hK => ?_) AllReadyH.nil
              refine step_append_all (by rfl) _ _ _ (by rfl) W3.heap.size 94 j0 _ 2 40 Tryz.underlying71 HJ.out.1 HJ.out.2.1 HJ.out.2.2.1 HJ.out.2.2.2 rfl (by omega) (.slice XA pl xc) pl (rowC fileC (l.take pl) (vl.take pl)) (by rfl) (by first | exact HX7.out | exact HX7.out.drew | exact HX7.out.alloc _ | exact (HX7.out.alloc _).drew) _ _ _ [.string nm, .slice none 0 0] (by rfl) (by rfl) (by first | exact fun j u hu => ⟨_, rfl, World.news_of_block (cs := #[.string nm, .slice none 0 0]) (t := 94) (fr := (0, 0)) (heap_alloc_new w7 _) j u hu⟩ | exact fun j u hu => ⟨_, rfl, World.news_of_block (cs := #[.string nm, .slice none 0 0]) (t := 94) (fr := (0, 0)) HB7.out j u hu⟩) (by simp [Value.oneCell']) (pl + 1) rfl (rowC fileC (l.take pl) (vl.take pl) ++ [.string nm, .slice none 0 0]) rfl (by unfold maxLen; omega) (by omega) (by first | exact HC.out.size | exact HC.out.drew.size | exact (HC.out.alloc _).size | exact (HC.out.alloc _).drew.size) ?_
              intro YA yc w12 ho12 hg12 hat12
              replace HC : Hid (Chg W3 w12 (fun _ => False)) := by
                obtain ⟨_, _, _, hzb⟩ := owns_formD HX7.out
                first
                | exact HC.out.trans (Chg.grown hg12) (fun k hk h => by have := (hzb k h.symm).1; omega)
                | exact HC.out.drew.trans (Chg.grown hg12) (fun k hk h => by have := (hzb k h.symm).1; omega)
                | exact (HC.out.alloc _).trans (Chg.grown hg12) (fun k hk h => by have := (hzb k h.symm).1; omega)
                | exact (HC.out.alloc _).drew.trans (Chg.grown hg12) (fun k hk h => by have := (hzb k h.symm).1; omega)
              have y12 := HYY.out _ HC.out
              have x12 := HC.out.cell (p := ⟨n, 1, none⟩) (fun h => h) HY1.out.2
              have HX12 := Lib.hid ho12
              clear ho12 hg12 hat12
              refine hK.out _ _ ?_ (fun hHeld5 => ?_)
              · (try dsimp only)
                first | exact x1 | exact x1a | exact x7 | exact x7a | exact x12 | exact x19 | exact x22 | exact cell_far (g := db) (b := n) (i := 1) (j := 1) (show db ≠ n from fun e => H3.out.2.2.2.2 (e ▸ H3.out.1.oD)) _ x19
              clear hK K hHeld4
              (try simp only [Act.put, List.setIfInBounds_toArray, List.set_cons_zero, List.set_cons_succ])
              refine wpAnyH_ready (rs := [19]) (by kernel_rfl) (by simp) ?_
              refine AllReadyH.cons (o := ⟨some 72, _, _, _, _, _⟩) rfl (fun K hK => ?_) AllReadyH.nil
              refine step_append_all (by rfl) _ _ _ (by rfl) W3.heap.size 94 j0 _ 2 40 Tryz.underlying71 HJ.out.1 HJ.out.2.1 HJ.out.2.2.1 HJ.out.2.2.2 rfl (by omega) (.slice YA (pl + 1) yc) (pl + 1) (rowC fileC (l.take pl) (vl.take pl) ++ [.string nm, .slice none 0 0]) (by rfl) (by first | exact HX12.out | exact HX12.out.drew) _ _ _ (rowC fileC (l.drop pl) (vl.drop pl)) (by rfl) (by have h := HU.out.2.2.2; omega) (by first | exact HND.out _ HC.out | exact HND.out _ HC.out.drew) HU.out.2.1 (pl + 1 + (l.length - pl)) (by omega) ((rowC fileC (l.take pl) (vl.take pl) ++ [.string nm, .slice none 0 0]) ++ rowC fileC (l.drop pl) (vl.drop pl)) rfl (by unfold maxLen; omega) (by omega) (by first | exact HC.out.size | exact HC.out.drew.size) ?_
              intro ZA zc w19 ho19 hg19 hat19
              replace HC : Hid (Chg W3 w19 (fun _ => False)) := by
                obtain ⟨_, _, _, hzb⟩ := owns_formD HX12.out
                first
                | exact HC.out.trans (Chg.grown hg19) (fun k hk h => by have := (hzb k h.symm).1; omega)
                | exact HC.out.drew.trans (Chg.grown hg19) (fun k hk h => by have := (hzb k h.symm).1; omega)
              have y19 := HYY.out _ HC.out
              have x19 := HC.out.cell (p := ⟨n, 1, none⟩) (fun h => h) HY1.out.2
              have q19 := (HC.out.holds (fun h => h) H3.out.1.hold).free 1
              have x22 := cell_far (g := db) (b := n) (i := 1) (j := 1) (show db ≠ n from fun e => H3.out.2.2.2.2 (e ▸ H3.out.1.oD)) (.slice ZA (pl + 1 + (l.length - pl)) zc) x19
              have HX19 := Lib.hid ho19
              clear ho19 hg19 hat19
              refine hK.out _ _ ?_ (fun hHeld6 => ?_)
              · (try dsimp only)
                first | exact x1 | exact x1a | exact x7 | exact x7a | exact x12 | exact x19 | exact x22 | exact cell_far (g := db) (b := n) (i := 1) (j := 1) (show db ≠ n from fun e => H3.out.2.2.2.2 (e ▸ H3.out.1.oD)) _ x19
              clear hK K hHeld5
              (try simp only [Act.put, List.setIfInBounds_toArray, List.set_cons_zero, List.set_cons_succ])
              refine wpAnyH_take (i := 20) (oi := ⟨some 73, _, _, _, _, _⟩) (v := ?_) rfl (by kernel_rfl) (by kernel_rfl) (by kernel_rfl) (fun _ _ _ h => h) (Or.inl ⟨by kernel_rfl, ?_⟩) (by assumption) ?_
              rotate_left
              · (intro w hSw; (try dsimp only at hSw); go_simp; (first | done | with_reducible rfl))
              (try simp only [Act.put, List.setIfInBounds_toArray, List.set_cons_zero, List.set_cons_succ])
              refine wpAnyH_take (i := 21) (oi := ⟨some 74, _, _, _, _, _⟩) (v := ?_) rfl (by kernel_rfl) (by kernel_rfl) (by kernel_rfl) (fun _ _ _ h => h) (Or.inl ⟨by kernel_rfl, ?_⟩) (by assumption) ?_
              rotate_left
              · (intro w hSw; (try dsimp only at hSw); go_simp; (first | done | with_reducible rfl))
              (try simp only [Act.put, List.setIfInBounds_toArray, List.set_cons_zero, List.set_cons_succ])
              refine wpAnyH_ready (rs := [22]) (by kernel_rfl) (by simp) ?_
              refine AllReadyH.cons rfl (fun K hK => ?_) AllReadyH.nil
              go_simp
              refine hK.out _ _ ?_ (fun hHeld7 => ?_)
              · (try dsimp only)
                first | exact x1 | exact x1a | exact x7 | exact x7a | exact x12 | exact x19 | exact x22 | exact cell_far (g := db) (b := n) (i := 1) (j := 1) (show db ≠ n from fun e => H3.out.2.2.2.2 (e ▸ H3.out.1.oD)) _ x19
              clear hK K hHeld6
              (try simp only [Act.put, List.setIfInBounds_toArray, List.set_cons_zero, List.set_cons_succ])
              refine wpAnyH_done (by kernel_rfl) ?_ _
              go_wp2
              all_goals
                (try simp only [Exit.inBlock, Exit.then])
                first
                | go_end0
                | refine bodyPost_ret (results_none rfl _ _ _) rfl ?_
                obtain ⟨z1, z2, z3, z4, z5, z6⟩ := HEND.out _ _ _ HC.out HX19.out
                first | exact ⟨rfl, z1, z2, z3, z4, z5, z6⟩ | exact ⟨rfl, z1, z2, ⟨z3, z4, z5⟩, z6⟩ | (have hq0 : pl + 1 + (l.length - pl) = pl + 1 := (by omega); rw [hq0] at z5 z6; exact ⟨rfl, z1, z2, z3, z4, z5, z6⟩)
            refine AllReadyH.cons (o := ⟨some 69, _, _, _, _, _⟩) rfl (fun K hK => ?_) AllReadyH.nil
            go_simp
            refine hK.out _ _ ?_ (fun hHeld2 => ?_)
            · (try dsimp only)
              first | exact x1 | exact x1a | exact x7 | exact x7a | exact x12 | exact x19 | exact x22 | exact cell_far (g := db) (b := n) (i := 1) (j := 1) (show db ≠ n from fun e => H3.out.2.2.2.2 (e ▸ H3.out.1.oD)) _ x19
            clear hK K hHeld1
            (try simp only [Act.put, List.setIfInBounds_toArray, List.set_cons_zero, List.set_cons_succ])
            refine wpAnyH_take (i := 18) (oi := ⟨some 71, _, _, _, _, _⟩) (v := ?_) rfl (by kernel_rfl) (by kernel_rfl) (by kernel_rfl) (fun _ _ _ h => h) (Or.inl ⟨by kernel_rfl, ?_⟩) (by assumption) ?_
            rotate_left
            · (intro w hSw; (try dsimp only at hSw); go_simp; (first | done | with_reducible rfl))
            (try simp only [Act.put, List.setIfInBounds_toArray, List.set_cons_zero, List.set_cons_succ])
            refine wpAnyH_ready (rs := [4]) (by kernel_rfl) (by simp) ?_
            refine AllReadyH.cons (o := ⟨some 57, _, _, _, _, _⟩) rfl (fun K hK => ?_) AllReadyH.nil
            go_simp
            refine hK.out _ _ ?_ (fun hHeld3 => ?_)
            · (try dsimp only)
              first | exact x1 | exact x1a | exact x7 | exact x7a | exact x12 | exact x19 | exact x22 | exact cell_far (g := db) (b := n) (i := 1) (j := 1) (show db ≠ n from fun e => H3.out.2.2.2.2 (e ▸ H3.out.1.oD)) _ x19
            clear hK K hHeld2
            (try simp only [Act.put, List.setIfInBounds_toArray, List.set_cons_zero, List.set_cons_succ])
            refine wpAnyH_take (i := 6) (oi := ⟨some 59, _, _, _, _, _⟩) (v := ?_) rfl (by kernel_rfl) (by kernel_rfl) (by kernel_rfl) (fun _ _ _ h => h) (Or.inl ⟨by kernel_rfl, ?_⟩) (by assumption) ?_
            rotate_left
            · (intro w hSw; (try dsimp only at hSw); go_simp; (first | done | with_reducible rfl))
            (try simp only [Act.put, List.setIfInBounds_toArray, List.set_cons_zero, List.set_cons_succ])
            refine wpAnyH_ready (rs := [7]) (by kernel_rfl) (by simp) ?_
            refine AllReadyH.cons (o := ⟨some 60, _, _, _, _, _⟩) rfl (fun K hK => ?_) AllReadyH.nil
            refine step_append_all (by rfl) _ _ _ (by rfl) W3.heap.size 94 j0 _ 2 40 Tryz.underlying71 HJ.out.1 HJ.out.2.1 HJ.out.2.2.1 HJ.out.2.2.2 rfl (by omega) (.slice none 0 0) 0 [] (by rfl) (World.ownsRow_nil _ _ _ _) _ _ _ (rowC fileC (l.take pl) (vl.take pl)) (by rfl) (by have h := HU.out.2.2.1; omega) (by first | exact HNT.out _ HC.out | exact HNT.out _ HC.out.drew | exact HNT.out _ (HC.out.alloc _) | exact HNT.out _ (HC.out.alloc _).drew) HU.out.1 pl (by omega) (rowC fileC (l.take pl) (vl.take pl)) (List.nil_append _) (by unfold maxLen; omega) (by omega) (by first | exact HC.out.size | exact HC.out.drew.size | exact (HC.out.alloc _).size | exact (HC.out.alloc _).drew.size) ?_
            intro XA xc w7 ho7 hg7 hat7
            try have HB7 : Hid (Holds w7 W3.heap.size 94 #[.string nm, .slice none 0 0]) := Lib.hid (((Chg.grown hg7).mono (T := fun _ => False) (fun _ _ h => by cases h)).holds (fun h => h) (Holds.new W3 _ _))
            replace HC : Hid (Chg W3 w7 (fun _ => False)) := by
              first
              | exact HC.out.trans ((Chg.grown hg7).mono (fun _ _ h => by cases h)) (fun _ _ h => h)
              | exact HC.out.drew.trans ((Chg.grown hg7).mono (fun _ _ h => by cases h)) (fun _ _ h => h)
              | exact (HC.out.alloc _).trans ((Chg.grown hg7).mono (fun _ _ h => by cases h)) (fun _ _ h => h)
              | exact (HC.out.alloc _).drew.trans ((Chg.grown hg7).mono (fun _ _ h => by cases h)) (fun _ _ h => h)
            have y7 := HYY.out _ HC.out
            have x7 := HC.out.cell (p := ⟨n, 1, none⟩) (fun h => h) HY1.out.2
            have y7a := HYY.out _ (HC.out.alloc (.cells #[.string nm, .slice none 0 0] 94))
            have x7a := (HC.out.alloc (.cells #[.string nm, .slice none 0 0] 94)).cell (p := ⟨n, 1, none⟩) (fun h => h) HY1.out.2
            have HX7 := Lib.hid ho7
            clear ho7 hg7 hat7
            refine hK.out _ _ ?_ (fun hHeld4 => ?_)
            · (try dsimp only)
              first | exact x1 | exact x1a | exact x7 | exact x7a | exact x12 | exact x19 | exact x22 | exact cell_far (g := db) (b := n) (i := 1) (j := 1) (show db ≠ n from fun e => H3.out.2.2.2.2 (e ▸ H3.out.1.oD)) _ x19
            clear hK K hHeld3
            (try simp only [Act.put, List.setIfInBounds_toArray, List.set_cons_zero, List.set_cons_succ])
            refine wpAnyH_ready (rs := [12]) (by kernel_rfl) (by simp) ?_
            refine AllReadyH.cons (o := ⟨some 65, _, _, _, _, _⟩) rfl (fun K hK => ?_) AllReadyH.nil
            refine step_append_all (by rfl) _ _ _ (by rfl) W3.heap.size 94 j0 _ 2 40 Tryz.underlying71 HJ.out.1 HJ.out.2.1 HJ.out.2.2.1 HJ.out.2.2.2 rfl (by omega) (.slice XA pl xc) pl (rowC fileC (l.take pl) (vl.take pl)) (by rfl) (by first | exact HX7.out | exact HX7.out.drew | exact HX7.out.alloc _ | exact (HX7.out.alloc _).drew) _ _ _ [.string nm, .slice none 0 0] (by rfl) (by rfl) (by first | exact fun j u hu => ⟨_, rfl, World.news_of_block (cs := #[.string nm, .slice none 0 0]) (t := 94) (fr := (0, 0)) (heap_alloc_new w7 _) j u hu⟩ | exact fun j u hu => ⟨_, rfl, World.news_of_block (cs := #[.string nm, .slice none 0 0]) (t := 94) (fr := (0, 0)) HB7.out j u hu⟩) (by simp [Value.oneCell']) (pl + 1) rfl (rowC fileC (l.take pl) (vl.take pl) ++ [.string nm, .slice none 0 0]) rfl (by unfold maxLen; omega) (by omega) (by first | exact HC.out.size | exact HC.out.drew.size | exact (HC.out.alloc _).size | exact (HC.out.alloc _).drew.size) ?_
            intro YA yc w12 ho12 hg12 hat12
            replace HC : Hid (Chg W3 w12 (fun _ => False)) := by
              obtain ⟨_, _, _, hzb⟩ := owns_formD HX7.out
              first
              | exact HC.out.trans (Chg.grown hg12) (fun k hk h => by have := (hzb k h.symm).1; omega)
              | exact HC.out.drew.trans (Chg.grown hg12) (fun k hk h => by have := (hzb k h.symm).1; omega)
              | exact (HC.out.alloc _).trans (Chg.grown hg12) (fun k hk h => by have := (hzb k h.symm).1; omega)
              | exact (HC.out.alloc _).drew.trans (Chg.grown hg12) (fun k hk h => by have := (hzb k h.symm).1; omega)
            have y12 := HYY.out _ HC.out
            have x12 := HC.out.cell (p := ⟨n, 1, none⟩) (fun h => h) HY1.out.2
            have HX12 := Lib.hid ho12
            clear ho12 hg12 hat12
            refine hK.out _ _ ?_ (fun hHeld5 => ?_)
            · (try dsimp only)
              first | exact x1 | exact x1a | exact x7 | exact x7a | exact x12 | exact x19 | exact x22 | exact cell_far (g := db) (b := n) (i := 1) (j := 1) (show db ≠ n from fun e => H3.out.2.2.2.2 (e ▸ H3.out.1.oD)) _ x19
            clear hK K hHeld4
            (try simp only [Act.put, List.setIfInBounds_toArray, List.set_cons_zero, List.set_cons_succ])
            refine wpAnyH_ready (rs := [19]) (by kernel_rfl) (by simp) ?_
            refine AllReadyH.cons (o := ⟨some 72, _, _, _, _, _⟩) rfl (fun K hK => ?_) AllReadyH.nil
            refine step_append_all (by rfl) _ _ _ (by rfl) W3.heap.size 94 j0 _ 2 40 Tryz.underlying71 HJ.out.1 HJ.out.2.1 HJ.out.2.2.1 HJ.out.2.2.2 rfl (by omega) (.slice YA (pl + 1) yc) (pl + 1) (rowC fileC (l.take pl) (vl.take pl) ++ [.string nm, .slice none 0 0]) (by rfl) (by first | exact HX12.out | exact HX12.out.drew) _ _ _ (rowC fileC (l.drop pl) (vl.drop pl)) (by rfl) (by have h := HU.out.2.2.2; omega) (by first | exact HND.out _ HC.out | exact HND.out _ HC.out.drew) HU.out.2.1 (pl + 1 + (l.length - pl)) (by omega) ((rowC fileC (l.take pl) (vl.take pl) ++ [.string nm, .slice none 0 0]) ++ rowC fileC (l.drop pl) (vl.drop pl)) rfl (by unfold maxLen; omega) (by omega) (by first | exact HC.out.size | exact HC.out.drew.size) ?_
            intro ZA zc w19 ho19 hg19 hat19
            replace HC : Hid (Chg W3 w19 (fun _ => False)) := by
              obtain ⟨_, _, _, hzb⟩ := owns_formD HX12.out
              first
              | exact HC.out.trans (Chg.grown hg19) (fun k hk h => by have := (hzb k h.symm).1; omega)
              | exact HC.out.drew.trans (Chg.grown hg19) (fun k hk h => by have := (hzb k h.symm).1; omega)
            have y19 := HYY.out _ HC.out
            have x19 := HC.out.cell (p := ⟨n, 1, none⟩) (fun h => h) HY1.out.2
            have q19 := (HC.out.holds (fun h => h) H3.out.1.hold).free 1
            have x22 := cell_far (g := db) (b := n) (i := 1) (j := 1) (show db ≠ n from fun e => H3.out.2.2.2.2 (e ▸ H3.out.1.oD)) (.slice ZA (pl + 1 + (l.length - pl)) zc) x19
            have HX19 := Lib.hid ho19
            clear ho19 hg19 hat19
            refine hK.out _ _ ?_ (fun hHeld6 => ?_)
            · (try dsimp only)
              first | exact x1 | exact x1a | exact x7 | exact x7a | exact x12 | exact x19 | exact x22 | exact cell_far (g := db) (b := n) (i := 1) (j := 1) (show db ≠ n from fun e => H3.out.2.2.2.2 (e ▸ H3.out.1.oD)) _ x19
            clear hK K hHeld5
            (try simp only [Act.put, List.setIfInBounds_toArray, List.set_cons_zero, List.set_cons_succ])
            refine wpAnyH_take (i := 20) (oi := ⟨some 73, _, _, _, _, _⟩) (v := ?_) rfl (by kernel_rfl) (by kernel_rfl) (by kernel_rfl) (fun _ _ _ h => h) (Or.inl ⟨by kernel_rfl, ?_⟩) (by assumption) ?_
            rotate_left
            · (intro w hSw; (try dsimp only at hSw); go_simp; (first | done | with_reducible rfl))
            (try simp only [Act.put, List.setIfInBounds_toArray, List.set_cons_zero, List.set_cons_succ])
            refine wpAnyH_take (i := 21) (oi := ⟨some 74, _, _, _, _, _⟩) (v := ?_) rfl (by kernel_rfl) (by kernel_rfl) (by kernel_rfl) (fun _ _ _ h => h) (Or.inl ⟨by kernel_rfl, ?_⟩) (by assumption) ?_
            rotate_left
            · (intro w hSw; (try dsimp only at hSw); go_simp; (first | done | with_reducible rfl))
            (try simp only [Act.put, List.setIfInBounds_toArray, List.set_cons_zero, List.set_cons_succ])
            refine wpAnyH_ready (rs := [22]) (by kernel_rfl) (by simp) ?_
            refine AllReadyH.cons rfl (fun K hK => ?_) AllReadyH.nil
            go_simp
            refine hK.out _ _ ?_ (fun hHeld7 => ?_)
            · (try dsimp only)
              first | exact x1 | exact x1a | exact x7 | exact x7a | exact x12 | exact x19 | exact x22 | exact cell_far (g := db) (b := n) (i := 1) (j := 1) (show db ≠ n from fun e => H3.out.2.2.2.2 (e ▸ H3.out.1.oD)) _ x19
            clear hK K hHeld6
            (try simp only [Act.put, List.setIfInBounds_toArray, List.set_cons_zero, List.set_cons_succ])
            refine wpAnyH_done (by kernel_rfl) ?_ _
            go_wp2
            all_goals
              (try simp only [Exit.inBlock, Exit.then])
              first
              | go_end0
              | refine bodyPost_ret (results_none rfl _ _ _) rfl ?_
              obtain ⟨z1, z2, z3, z4, z5, z6⟩ := HEND.out _ _ _ HC.out HX19.out
              first | exact ⟨rfl, z1, z2, z3, z4, z5, z6⟩ | exact ⟨rfl, z1, z2, ⟨z3, z4, z5⟩, z6⟩ | (have hq0 : pl + 1 + (l.length - pl) = pl + 1 := (by omega); rw [hq0] at z5 z6; exact ⟨rfl, z1, z2, z3, z4, z5, z6⟩)
          refine AllReadyH.cons (o := ⟨some 69, _, _, _, _, _⟩) rfl (fun K hK => ?_) AllReadyH.nil
          go_simp
          refine hK.out _ _ ?_ (fun hHeld1 => ?_)
          · (try dsimp only)
            first | exact x1 | exact x1a | exact x7 | exact x7a | exact x12 | exact x19 | exact x22 | exact cell_far (g := db) (b := n) (i := 1) (j := 1) (show db ≠ n from fun e => H3.out.2.2.2.2 (e ▸ H3.out.1.oD)) _ x19
          clear hK K hHeld0
          (try simp only [Act.put, List.setIfInBounds_toArray, List.set_cons_zero, List.set_cons_succ])
          refine wpAnyH_take (i := 18) (oi := ⟨some 71, _, _, _, _, _⟩) (v := ?_) rfl (by kernel_rfl) (by kernel_rfl) (by kernel_rfl) (fun _ _ _ h => h) (Or.inl ⟨by kernel_rfl, ?_⟩) (by assumption) ?_
          rotate_left
          · (intro w hSw; (try dsimp only at hSw); go_simp; (first | done | with_reducible rfl))
          (try simp only [Act.put, List.setIfInBounds_toArray, List.set_cons_zero, List.set_cons_succ])
          refine wpAnyH_ready (rs := [4, 11]) (by kernel_rfl) (by simp) ?_
          refine AllReadyH.cons (o := ⟨some 57, _, _, _, _, _⟩) rfl (fun K hK => ?_) ?_
          · skip
            go_simp
            refine hK.out _ _ ?_ (fun hHeld2 => ?_)
            · (try dsimp only)
              first | exact x1 | exact x1a | exact x7 | exact x7a | exact x12 | exact x19 | exact x22 | exact cell_far (g := db) (b := n) (i := 1) (j := 1) (show db ≠ n from fun e => H3.out.2.2.2.2 (e ▸ H3.out.1.oD)) _ x19
            clear hK K hHeld1
            (try simp only [Act.put, List.setIfInBounds_toArray, List.set_cons_zero, List.set_cons_succ])
            refine wpAnyH_take (i := 6) (oi := ⟨some 59, _, _, _, _, _⟩) (v := ?_) rfl (by kernel_rfl) (by kernel_rfl) (by kernel_rfl) (fun _ _ _ h => h) (Or.inl ⟨by kernel_rfl, ?_⟩) (by assumption) ?_
            rotate_left
            · (intro w hSw; (try dsimp only at hSw); go_simp; (first | done | with_reducible rfl))
            (try simp only [Act.put, List.setIfInBounds_toArray, List.set_cons_zero, List.set_cons_succ])
            refine wpAnyH_ready (rs := [7, 11]) (by kernel_rfl) (by simp) ?_
            refine AllReadyH.cons (o := ⟨some 60, _, _, _, _, _⟩) rfl (fun K hK => ?_) ?_
            · skip
              refine step_append_all (by rfl) _ _ _ (by rfl) W3.heap.size 94 j0 _ 2 40 Tryz.underlying71 HJ.out.1 HJ.out.2.1 HJ.out.2.2.1 HJ.out.2.2.2 rfl (by omega) (.slice none 0 0) 0 [] (by rfl) (World.ownsRow_nil _ _ _ _) _ _ _ (rowC fileC (l.take pl) (vl.take pl)) (by rfl) (by have h := HU.out.2.2.1; omega) (by first | exact HNT.out _ HC.out | exact HNT.out _ HC.out.drew | exact HNT.out _ (HC.out.alloc _) | exact HNT.out _ (HC.out.alloc _).drew) HU.out.1 pl (by omega) (rowC fileC (l.take pl) (vl.take pl)) (List.nil_append _) (by unfold maxLen; omega) (by omega) (by first | exact HC.out.size | exact HC.out.drew.size | exact (HC.out.alloc _).size | exact (HC.out.alloc _).drew.size) ?_
              intro XA xc w7 ho7 hg7 hat7
              try have HB7 : Hid (Holds w7 W3.heap.size 94 #[.string nm, .slice none 0 0]) := Lib.hid (((Chg.grown hg7).mono (T := fun _ => False) (fun _ _ h => by cases h)).holds (fun h => h) (Holds.new W3 _ _))
              replace HC : Hid (Chg W3 w7 (fun _ => False)) := by
                first
                | exact HC.out.trans ((Chg.grown hg7).mono (fun _ _ h => by cases h)) (fun _ _ h => h)
                | exact HC.out.drew.trans ((Chg.grown hg7).mono (fun _ _ h => by cases h)) (fun _ _ h => h)
                | exact (HC.out.alloc _).trans ((Chg.grown hg7).mono (fun _ _ h => by cases h)) (fun _ _ h => h)
                | exact (HC.out.alloc _).drew.trans ((Chg.grown hg7).mono (fun _ _ h => by cases h)) (fun _ _ h => h)
              have y7 := HYY.out _ HC.out
              have x7 := HC.out.cell (p := ⟨n, 1, none⟩) (fun h => h) HY1.out.2
              have y7a := HYY.out _ (HC.out.alloc (.cells #[.string nm, .slice none 0 0] 94))
              have x7a := (HC.out.alloc (.cells #[.string nm, .slice none 0 0] 94)).cell (p := ⟨n, 1, none⟩) (fun h => h) HY1.out.2
              have HX7 := Lib.hid ho7
              clear ho7 hg7 hat7
              refine hK.out _ _ ?_ (fun hHeld3 => ?_)
              · (try dsimp only)
                first | exact x1 | exact x1a | exact x7 | exact x7a | exact x12 | exact x19 | exact x22 | exact cell_far (g := db) (b := n) (i := 1) (j := 1) (show db ≠ n from fun e => H3.out.2.2.2.2 (e ▸ H3.out.1.oD)) _ x19
              clear hK K hHeld2
              (try simp only [Act.put, List.setIfInBounds_toArray, List.set_cons_zero, List.set_cons_succ])
              refine wpAnyH_ready (rs := [11]) (by kernel_rfl) (by simp) ?_
              refine AllReadyH.cons (o := ⟨some 64, _, _, _, _, _⟩) rfl (fun K hK => ?_) AllReadyH.nil
              go_simp
              refine hK.out _ _ ?_ (fun hHeld4 => ?_)
              · (try dsimp only)
                first | exact x1 | exact x1a | exact x7 | exact x7a | exact x12 | exact x19 | exact x22 | exact cell_far (g := db) (b := n) (i := 1) (j := 1) (show db ≠ n from fun e => H3.out.2.2.2.2 (e ▸ H3.out.1.oD)) _ x19
              clear hK K hHeld3
              (try simp only [Act.put, List.setIfInBounds_toArray, List.set_cons_zero, List.set_cons_succ])
              refine wpAnyH_ready (rs := [12]) (by kernel_rfl) (by simp) ?_
              refine AllReadyH.cons (o := ⟨some 65, _, _, _, _, _⟩) rfl (fun K hK => ?_) AllReadyH.nil
              refine step_append_all (by rfl) _ _ _ (by rfl) W3.heap.size 94 j0 _ 2 40 Tryz.underlying71 HJ.out.1 HJ.out.2.1 HJ.out.2.2.1 HJ.out.2.2.2 rfl (by omega) (.slice XA pl xc) pl (rowC fileC (l.take pl) (vl.take pl)) (by rfl) (by first | exact HX7.out | exact HX7.out.drew | exact HX7.out.alloc _ | exact (HX7.out.alloc _).drew) _ _ _ [.string nm, .slice none 0 0] (by rfl) (by rfl) (by first | exact fun j u hu => ⟨_, rfl, World.news_of_block (cs := #[.string nm, .slice none 0 0]) (t := 94) (fr := (0, 0)) (heap_alloc_new w7 _) j u hu⟩ | exact fun j u hu => ⟨_, rfl, World.news_of_block (cs := #[.string nm, .slice none 0 0]) (t := 94) (fr := (0, 0)) HB7.out j u hu⟩) (by simp [Value.oneCell']) (pl + 1) rfl (rowC fileC (l.take pl) (vl.take pl) ++ [.string nm, .slice none 0 0]) rfl (by unfold maxLen; omega) (by omega) (by first | exact HC.out.size | exact HC.out.drew.size | exact (HC.out.alloc _).size | exact (HC.out.alloc _).drew.size) ?_
              intro YA yc w12 ho12 hg12 hat12
              replace HC : Hid (Chg W3 w12 (fun _ => False)) := by
                obtain ⟨_, _, _, hzb⟩ := owns_formD HX7.out
                first
                | exact HC.out.trans (Chg.grown hg12) (fun k hk h => by have := (hzb k h.symm).1; omega)
                | exact HC.out.drew.trans (Chg.grown hg12) (fun k hk h => by have := (hzb k h.symm).1; omega)
                | exact (HC.out.alloc _).trans (Chg.grown hg12) (fun k hk h => by have := (hzb k h.symm).1; omega)
                | exact (HC.out.alloc _).drew.trans (Chg.grown hg12) (fun k hk h => by have := (hzb k h.symm).1; omega)
              have y12 := HYY.out _ HC.out
              have x12 := HC.out.cell (p := ⟨n, 1, none⟩) (fun h => h) HY1.out.2
              have HX12 := Lib.hid ho12
              clear ho12 hg12 hat12
              refine hK.out _ _ ?_ (fun hHeld5 => ?_)
              · (try dsimp only)
                first | exact x1 | exact x1a | exact x7 | exact x7a | exact x12 | exact x19 | exact x22 | exact cell_far (g := db) (b := n) (i := 1) (j := 1) (show db ≠ n from fun e => H3.out.2.2.2.2 (e ▸ H3.out.1.oD)) _ x19
              clear hK K hHeld4
              (try simp only [Act.put, List.setIfInBounds_toArray, List.set_cons_zero, List.set_cons_succ])
              refine wpAnyH_ready (rs := [19]) (by kernel_rfl) (by simp) ?_
              refine AllReadyH.cons (o := ⟨some 72, _, _, _, _, _⟩) rfl (fun K hK => ?_) AllReadyH.nil
              refine step_append_all (by rfl) _ _ _ (by rfl) W3.heap.size 94 j0 _ 2 40 Tryz.underlying71 HJ.out.1 HJ.out.2.1 HJ.out.2.2.1 HJ.out.2.2.2 rfl (by omega) (.slice YA (pl + 1) yc) (pl + 1) (rowC fileC (l.take pl) (vl.take pl) ++ [.string nm, .slice none 0 0]) (by rfl) (by first | exact HX12.out | exact HX12.out.drew) _ _ _ (rowC fileC (l.drop pl) (vl.drop pl)) (by rfl) (by have h := HU.out.2.2.2; omega) (by first | exact HND.out _ HC.out | exact HND.out _ HC.out.drew) HU.out.2.1 (pl + 1 + (l.length - pl)) (by omega) ((rowC fileC (l.take pl) (vl.take pl) ++ [.string nm, .slice none 0 0]) ++ rowC fileC (l.drop pl) (vl.drop pl)) rfl (by unfold maxLen; omega) (by omega) (by first | exact HC.out.size | exact HC.out.drew.size) ?_
              intro ZA zc w19 ho19 hg19 hat19
              replace HC : Hid (Chg W3 w19 (fun _ => False)) := by
                obtain ⟨_, _, _, hzb⟩ := owns_formD HX12.out
                first
                | exact HC.out.trans (Chg.grown hg19) (fun k hk h => by have := (hzb k h.symm).1; omega)
                | exact HC.out.drew.trans (Chg.grown hg19) (fun k hk h => by have := (hzb k h.symm).1; omega)
              have y19 := HYY.out _ HC.out
              have x19 := HC.out.cell (p := ⟨n, 1, none⟩) (fun h => h) HY1.out.2
              have q19 := (HC.out.holds (fun h => h) H3.out.1.hold).free 1
              have x22 := cell_far (g := db) (b := n) (i := 1) (j := 1) (show db ≠ n from fun e => H3.out.2.2.2.2 (e ▸ H3.out.1.oD)) (.slice ZA (pl + 1 + (l.length - pl)) zc) x19
              have HX19 := Lib.hid ho19
              clear ho19 hg19 hat19
              refine hK.out _ _ ?_ (fun hHeld6 => ?_)
              · (try dsimp only)
                first | exact x1 | exact x1a | exact x7 | exact x7a | exact x12 | exact x19 | exact x22 | exact cell_far (g := db) (b := n) (i := 1) (j := 1) (show db ≠ n from fun e => H3.out.2.2.2.2 (e ▸ H3.out.1.oD)) _ x19
              clear hK K hHeld5
              (try simp only [Act.put, List.setIfInBounds_toArray, List.set_cons_zero, List.set_cons_succ])
              refine wpAnyH_take (i := 20) (oi := ⟨some 73, _, _, _, _, _⟩) (v := ?_) rfl (by kernel_rfl) (by kernel_rfl) (by kernel_rfl) (fun _ _ _ h => h) (Or.inl ⟨by kernel_rfl, ?_⟩) (by assumption) ?_
              rotate_left
              · (intro w hSw; (try dsimp only at hSw); go_simp; (first | done | with_reducible rfl))
              (try simp only [Act.put, List.setIfInBounds_toArray, List.set_cons_zero, List.set_cons_succ])
              refine wpAnyH_take (i := 21) (oi := ⟨some 74, _, _, _, _, _⟩) (v := ?_) rfl (by kernel_rfl) (by kernel_rfl) (by kernel_rfl) (fun _ _ _ h => h) (Or.inl ⟨by kernel_rfl, ?_⟩) (by assumption) ?_
              rotate_left
              · (intro w hSw; (try dsimp only at hSw); go_simp; (first | done | with_reducible rfl))
              (try simp only [Act.put, List.setIfInBounds_toArray, List.set_cons_zero, List.set_cons_succ])
              refine wpAnyH_ready (rs := [22]) (by kernel_rfl) (by simp) ?_
              refine AllReadyH.cons rfl (fun K hK => ?_) AllReadyH.nil
              go_simp
              refine hK.out _ _ ?_ (fun hHeld7 => ?_)
              · (try dsimp only)
                first | exact x1 | exact x1a | exact x7 | exact x7a | exact x12 | exact x19 | exact x22 | exact cell_far (g := db) (b := n) (i := 1) (j := 1) (show db ≠ n from fun e => H3.out.2.2.2.2 (e ▸ H3.out.1.oD)) _ x19
              clear hK K hHeld6
              (try simp only [Act.put, List.setIfInBounds_toArray, List.set_cons_zero, List.set_cons_succ])
              refine wpAnyH_done (by kernel_rfl) ?_ _
              go_wp2
              all_goals
                (try simp only [Exit.inBlock, Exit.then])
                first
                | go_end0
                | refine bodyPost_ret (results_none rfl _ _ _) rfl ?_
                obtain ⟨z1, z2, z3, z4, z5, z6⟩ := HEND.out _ _ _ HC.out HX19.out
                first | exact ⟨rfl, z1, z2, z3, z4, z5, z6⟩ | exact ⟨rfl, z1, z2, ⟨z3, z4, z5⟩, z6⟩ | (have hq0 : pl + 1 + (l.length - pl) = pl + 1 := (by omega); rw [hq0] at z5 z6; exact ⟨rfl, z1, z2, z3, z4, z5, z6⟩)
            refine AllReadyH.cons (o := ⟨some 64, _, _, _, _, _⟩) rfl (fun K hK => ?_) AllReadyH.nil
            go_simp
            refine hK.out _ _ ?_ (fun hHeld3 => ?_)
            · (try dsimp only)
              first | exact x1 | exact x1a | exact x7 | exact x7a | exact x12 | exact x19 | exact x22 | exact cell_far (g := db) (b := n) (i := 1) (j := 1) (show db ≠ n from fun e => H3.out.2.2.2.2 (e ▸ H3.out.1.oD)) _ x19
            clear hK K hHeld2
            (try simp only [Act.put, List.setIfInBounds_toArray, List.set_cons_zero, List.set_cons_succ])
            refine wpAnyH_ready (rs := [7]) (by kernel_rfl) (by simp) ?_
            refine AllReadyH.cons (o := ⟨some 60, _, _, _, _, _⟩) rfl (fun K hK => ?_) AllReadyH.nil
            refine step_append_all (by rfl) _ _ _ (by rfl) W3.heap.size 94 j0 _ 2 40 Tryz.underlying71 HJ.out.1 HJ.out.2.1 HJ.out.2.2.1 HJ.out.2.2.2 rfl (by omega) (.slice none 0 0) 0 [] (by rfl) (World.ownsRow_nil _ _ _ _) _ _ _ (rowC fileC (l.take pl) (vl.take pl)) (by rfl) (by have h := HU.out.2.2.1; omega) (by first | exact HNT.out _ HC.out | exact HNT.out _ HC.out.drew | exact HNT.out _ (HC.out.alloc _) | exact HNT.out _ (HC.out.alloc _).drew) HU.out.1 pl (by omega) (rowC fileC (l.take pl) (vl.take pl)) (List.nil_append _) (by unfold maxLen; omega) (by omega) (by first | exact HC.out.size | exact HC.out.drew.size | exact (HC.out.alloc _).size | exact (HC.out.alloc _).drew.size) ?_
            intro XA xc w7 ho7 hg7 hat7
            try have HB7 : Hid (Holds w7 W3.heap.size 94 #[.string nm, .slice none 0 0]) := Lib.hid (((Chg.grown hg7).mono (T := fun _ => False) (fun _ _ h => by cases h)).holds (fun h => h) (Holds.new W3 _ _))
            replace HC : Hid (Chg W3 w7 (fun _ => False)) := by
              first
              | exact HC.out.trans ((Chg.grown hg7).mono (fun _ _ h => by cases h)) (fun _ _ h => h)
              | exact HC.out.drew.trans ((Chg.grown hg7).mono (fun _ _ h => by cases h)) (fun _ _ h => h)
              | exact (HC.out.alloc _).trans ((Chg.grown hg7).mono (fun _ _ h => by cases h)) (fun _ _ h => h)
              | exact (HC.out.alloc _).drew.trans ((Chg.grown hg7).mono (fun _ _ h => by cases h)) (fun _ _ h => h)
            have y7 := HYY.out _ HC.out
            have x7 := HC.out.cell (p := ⟨n, 1, none⟩) (fun h => h) HY1.out.2
            have y7a := HYY.out _ (HC.out.alloc (.cells #[.string nm, .slice none 0 0] 94))
            have x7a := (HC.out.alloc (.cells #[.string nm, .slice none 0 0] 94)).cell (p := ⟨n, 1, none⟩) (fun h => h) HY1.out.2
            have HX7 := Lib.hid ho7
            clear ho7 hg7 hat7
            refine hK.out _ _ ?_ (fun hHeld4 => ?_)
            · (try dsimp only)
              first | exact x1 | exact x1a | exact x7 | exact x7a | exact x12 | exact x19 | exact x22 | exact cell_far (g := db) (b := n) (i := 1) (j := 1) (show db ≠ n from fun e => H3.out.2.2.2.2 (e ▸ H3.out.1.oD)) _ x19
            clear hK K hHeld3
            (try simp only [Act.put, List.setIfInBounds_toArray, List.set_cons_zero, List.set_cons_succ])
            refine wpAnyH_ready (rs := [12]) (by kernel_rfl) (by simp) ?_
            refine AllReadyH.cons (o := ⟨some 65, _, _, _, _, _⟩) rfl (fun K hK => ?_) AllReadyH.nil
            refine step_append_all (by rfl) _ _ _ (by rfl) W3.heap.size 94 j0 _ 2 40 Tryz.underlying71 HJ.out.1 HJ.out.2.1 HJ.out.2.2.1 HJ.out.2.2.2 rfl (by omega) (.slice XA pl xc) pl (rowC fileC (l.take pl) (vl.take pl)) (by rfl) (by first | exact HX7.out | exact HX7.out.drew | exact HX7.out.alloc _ | exact (HX7.out.alloc _).drew) _ _ _ [.string nm, .slice none 0 0] (by rfl) (by rfl) (by first | exact fun j u hu => ⟨_, rfl, World.news_of_block (cs := #[.string nm, .slice none 0 0]) (t := 94) (fr := (0, 0)) (heap_alloc_new w7 _) j u hu⟩ | exact fun j u hu => ⟨_, rfl, World.news_of_block (cs := #[.string nm, .slice none 0 0]) (t := 94) (fr := (0, 0)) HB7.out j u hu⟩) (by simp [Value.oneCell']) (pl + 1) rfl (rowC fileC (l.take pl) (vl.take pl) ++ [.string nm, .slice none 0 0]) rfl (by unfold maxLen; omega) (by omega) (by first | exact HC.out.size | exact HC.out.drew.size | exact (HC.out.alloc _).size | exact (HC.out.alloc _).drew.size) ?_
            intro YA yc w12 ho12 hg12 hat12
            replace HC : Hid (Chg W3 w12 (fun _ => False)) := by
              obtain ⟨_, _, _, hzb⟩ := owns_formD HX7.out
              first
              | exact HC.out.trans (Chg.grown hg12) (fun k hk h => by have := (hzb k h.symm).1; omega)
              | exact HC.out.drew.trans (Chg.grown hg12) (fun k hk h => by have := (hzb k h.symm).1; omega)
              | exact (HC.out.alloc _).trans (Chg.grown hg12) (fun k hk h => by have := (hzb k h.symm).1; omega)
              | exact (HC.out.alloc _).drew.trans (Chg.grown hg12) (fun k hk h => by have := (hzb k h.symm).1; omega)
            have y12 := HYY.out _ HC.out
            have x12 := HC.out.cell (p := ⟨n, 1, none⟩) (fun h => h) HY1.out.2
            have HX12 := Lib.hid ho12
            clear ho12 hg12 hat12
            refine hK.out _ _ ?_ (fun hHeld5 => ?_)
            · (try dsimp only)
              first | exact x1 | exact x1a | exact x7 | exact x7a | exact x12 | exact x19 | exact x22 | exact cell_far (g := db) (b := n) (i := 1) (j := 1) (show db ≠ n from fun e => H3.out.2.2.2.2 (e ▸ H3.out.1.oD)) _ x19
            clear hK K hHeld4
            (try simp only [Act.put, List.setIfInBounds_toArray, List.set_cons_zero, List.set_cons_succ])
            refine wpAnyH_ready (rs := [19]) (by kernel_rfl) (by simp) ?_
            refine AllReadyH.cons (o := ⟨some 72, _, _, _, _, _⟩) rfl (fun K hK => ?_) AllReadyH.nil
            refine step_append_all (by rfl) _ _ _ (by rfl) W3.heap.size 94 j0 _ 2 40 Tryz.underlying71 HJ.out.1 HJ.out.2.1 HJ.out.2.2.1 HJ.out.2.2.2 rfl (by omega) (.slice YA (pl + 1) yc) (pl + 1) (rowC fileC (l.take pl) (vl.take pl) ++ [.string nm, .slice none 0 0]) (by rfl) (by first | exact HX12.out | exact HX12.out.drew) _ _ _ (rowC fileC (l.drop pl) (vl.drop pl)) (by rfl) (by have h := HU.out.2.2.2; omega) (by first | exact HND.out _ HC.out | exact HND.out _ HC.out.drew) HU.out.2.1 (pl + 1 + (l.length - pl)) (by omega) ((rowC fileC (l.take pl) (vl.take pl) ++ [.string nm, .slice none 0 0]) ++ rowC fileC (l.drop pl) (vl.drop pl)) rfl (by unfold maxLen; omega) (by omega) (by first | exact HC.out.size | exact HC.out.drew.size) ?_
            intro ZA zc w19 ho19 hg19 hat19
            replace HC : Hid (Chg W3 w19 (fun _ => False)) := by
              obtain ⟨_, _, _, hzb⟩ := owns_formD HX12.out
              first
              | exact HC.out.trans (Chg.grown hg19) (fun k hk h => by have := (hzb k h.symm).1; omega)
              | exact HC.out.drew.trans (Chg.grown hg19) (fun k hk h => by have := (hzb k h.symm).1; omega)
            have y19 := HYY.out _ HC.out
            have x19 := HC.out.cell (p := ⟨n, 1, none⟩) (fun h => h) HY1.out.2
            have q19 := (HC.out.holds (fun h => h) H3.out.1.hold).free 1
            have x22 := cell_far (g := db) (b := n) (i := 1) (j := 1) (show db ≠ n from fun e => H3.out.2.2.2.2 (e ▸ H3.out.1.oD)) (.slice ZA (pl + 1 + (l.length - pl)) zc) x19
            have HX19 := Lib.hid ho19
            clear ho19 hg19 hat19
            refine hK.out _ _ ?_ (fun hHeld6 => ?_)
            · (try dsimp only)
              first | exact x1 | exact x1a | exact x7 | exact x7a | exact x12 | exact x19 | exact x22 | exact cell_far (g := db) (b := n) (i := 1) (j := 1) (show db ≠ n from fun e => H3.out.2.2.2.2 (e ▸ H3.out.1.oD)) _ x19
            clear hK K hHeld5
            (try simp only [Act.put, List.setIfInBounds_toArray, List.set_cons_zero, List.set_cons_succ])
            refine wpAnyH_take (i := 20) (oi := ⟨some 73, _, _, _, _, _⟩) (v := ?_) rfl (by kernel_rfl) (by kernel_rfl) (by kernel_rfl) (fun _ _ _ h => h) (Or.inl ⟨by kernel_rfl, ?_⟩) (by assumption) ?_
            rotate_left
            · (intro w hSw; (try dsimp only at hSw); go_simp; (first | done | with_reducible rfl))
            (try simp only [Act.put, List.setIfInBounds_toArray, List.set_cons_zero, List.set_cons_succ])
            refine wpAnyH_take (i := 21) (oi := ⟨some 74, _, _, _, _, _⟩) (v := ?_) rfl (by kernel_rfl) (by kernel_rfl) (by kernel_rfl) (fun _ _ _ h => h) (Or.inl ⟨by kernel_rfl, ?_⟩) (by assumption) ?_
            rotate_left
            · (intro w hSw; (try dsimp only at hSw); go_simp; (first | done | with_reducible rfl))
            (try simp only [Act.put, List.setIfInBounds_toArray, List.set_cons_zero, List.set_cons_succ])
            refine wpAnyH_ready (rs := [22]) (by kernel_rfl) (by simp) ?_
            refine AllReadyH.cons rfl (fun K hK => ?_) AllReadyH.nil
            go_simp
            refine hK.out _ _ ?_ (fun hHeld7 => ?_)
            · (try dsimp only)
              first | exact x1 | exact x1a | exact x7 | exact x7a | exact x12 | exact x19 | exact x22 | exact cell_far (g := db) (b := n) (i := 1) (j := 1) (show db ≠ n from fun e => H3.out.2.2.2.2 (e ▸ H3.out.1.oD)) _ x19
            clear hK K hHeld6
            (try simp only [Act.put, List.setIfInBounds_toArray, List.set_cons_zero, List.set_cons_succ])
            refine wpAnyH_done (by kernel_rfl) ?_ _
            go_wp2
            all_goals
              (try simp only [Exit.inBlock, Exit.then])
              first
              | go_end0
              | refine bodyPost_ret (results_none rfl _ _ _) rfl ?_
              obtain ⟨z1, z2, z3, z4, z5, z6⟩ := HEND.out _ _ _ HC.out HX19.out
              first | exact ⟨rfl, z1, z2, z3, z4, z5, z6⟩ | exact ⟨rfl, z1, z2, ⟨z3, z4, z5⟩, z6⟩ | (have hq0 : pl + 1 + (l.length - pl) = pl + 1 := (by omega); rw [hq0] at z5 z6; exact ⟨rfl, z1, z2, z3, z4, z5, z6⟩)
          refine AllReadyH.cons (o := ⟨some 64, _, _, _, _, _⟩) rfl (fun K hK => ?_) AllReadyH.nil
          go_simp
          refine hK.out _ _ ?_ (fun hHeld2 => ?_)
          · (try dsimp only)
            first | exact x1 | exact x1a | exact x7 | exact x7a | exact x12 | exact x19 | exact x22 | exact cell_far (g := db) (b := n) (i := 1) (j := 1) (show db ≠ n from fun e => H3.out.2.2.2.2 (e ▸ H3.out.1.oD)) _ x19
          clear hK K hHeld1
          (try simp only [Act.put, List.setIfInBounds_toArray, List.set_cons_zero, List.set_cons_succ])
          refine wpAnyH_ready (rs := [4]) (by kernel_rfl) (by simp) ?_
          refine AllReadyH.cons (o := ⟨some 57, _, _, _, _, _⟩) rfl (fun K hK => ?_) AllReadyH.nil
          go_simp
          refine hK.out _ _ ?_ (fun hHeld3 => ?_)
          · (try dsimp only)
            first | exact x1 | exact x1a | exact x7 | exact x7a | exact x12 | exact x19 | exact x22 | exact cell_far (g := db) (b := n) (i := 1) (j := 1) (show db ≠ n from fun e => H3.out.2.2.2.2 (e ▸ H3.out.1.oD)) _ x19
          clear hK K hHeld2
          (try simp only [Act.put, List.setIfInBounds_toArray, List.set_cons_zero, List.set_cons_succ])
          refine wpAnyH_take (i := 6) (oi := ⟨some 59, _, _, _, _, _⟩) (v := ?_) rfl (by kernel_rfl) (by kernel_rfl) (by kernel_rfl) (fun _ _ _ h => h) (Or.inl ⟨by kernel_rfl, ?_⟩) (by assumption) ?_
          rotate_left
          · (intro w hSw; (try dsimp only at hSw); go_simp; (first | done | with_reducible rfl))
          (try simp only [Act.put, List.setIfInBounds_toArray, List.set_cons_zero, List.set_cons_succ])
          refine wpAnyH_ready (rs := [7]) (by kernel_rfl) (by simp) ?_
          refine AllReadyH.cons (o := ⟨some 60, _, _, _, _, _⟩) rfl (fun K hK => ?_) AllReadyH.nil
          refine step_append_all (by rfl) _ _ _ (by rfl) W3.heap.size 94 j0 _ 2 40 Tryz.underlying71 HJ.out.1 HJ.out.2.1 HJ.out.2.2.1 HJ.out.2.2.2 rfl (by omega) (.slice none 0 0) 0 [] (by rfl) (World.ownsRow_nil _ _ _ _) _ _ _ (rowC fileC (l.take pl) (vl.take pl)) (by rfl) (by have h := HU.out.2.2.1; omega) (by first | exact HNT.out _ HC.out | exact HNT.out _ HC.out.drew | exact HNT.out _ (HC.out.alloc _) | exact HNT.out _ (HC.out.alloc _).drew) HU.out.1 pl (by omega) (rowC fileC (l.take pl) (vl.take pl)) (List.nil_append _) (by unfold maxLen; omega) (by omega) (by first | exact HC.out.size | exact HC.out.drew.size | exact (HC.out.alloc _).size | exact (HC.out.alloc _).drew.size) ?_
          intro XA xc w7 ho7 hg7 hat7
          try have HB7 : Hid (Holds w7 W3.heap.size 94 #[.string nm, .slice none 0 0]) := Lib.hid (((Chg.grown hg7).mono (T := fun _ => False) (fun _ _ h => by cases h)).holds (fun h => h) (Holds.new W3 _ _))
          replace HC : Hid (Chg W3 w7 (fun _ => False)) := by
            first
            | exact HC.out.trans ((Chg.grown hg7).mono (fun _ _ h => by cases h)) (fun _ _ h => h)
            | exact HC.out.drew.trans ((Chg.grown hg7).mono (fun _ _ h => by cases h)) (fun _ _ h => h)
            | exact (HC.out.alloc _).trans ((Chg.grown hg7).mono (fun _ _ h => by cases h)) (fun _ _ h => h)
            | exact (HC.out.alloc _).drew.trans ((Chg.grown hg7).mono (fun _ _ h => by cases h)) (fun _ _ h => h)
          have y7 := HYY.out _ HC.out
          have x7 := HC.out.cell (p := ⟨n, 1, none⟩) (fun h => h) HY1.out.2
          have y7a := HYY.out _ (HC.out.alloc (.cells #[.string nm, .slice none 0 0] 94))
          have x7a := (HC.out.alloc (.cells #[.string nm, .slice none 0 0] 94)).cell (p := ⟨n, 1, none⟩) (fun h => h) HY1.out.2
          have HX7 := Lib.hid ho7
          clear ho7 hg7 hat7
          refine hK.out _ _ ?_ (fun hHeld4 => ?_)
          · (try dsimp only)
            first | exact x1 | exact x1a | exact x7 | exact x7a | exact x12 | exact x19 | exact x22 | exact cell_far (g := db) (b := n) (i := 1) (j := 1) (show db ≠ n from fun e => H3.out.2.2.2.2 (e ▸ H3.out.1.oD)) _ x19
          clear hK K hHeld3
          (try simp only [Act.put, List.setIfInBounds_toArray, List.set_cons_zero, List.set_cons_succ])
          refine wpAnyH_ready (rs := [12]) (by kernel_rfl) (by simp) ?_
          refine AllReadyH.cons (o := ⟨some 65, _, _, _, _, _⟩) rfl (fun K hK => ?_) AllReadyH.nil
          refine step_append_all (by rfl) _ _ _ (by rfl) W3.heap.size 94 j0 _ 2 40 Tryz.underlying71 HJ.out.1 HJ.out.2.1 HJ.out.2.2.1 HJ.out.2.2.2 rfl (by omega) (.slice XA pl xc) pl (rowC fileC (l.take pl) (vl.take pl)) (by rfl) (by first | exact HX7.out | exact HX7.out.drew | exact HX7.out.alloc _ | exact (HX7.out.alloc _).drew) _ _ _ [.string nm, .slice none 0 0] (by rfl) (by rfl) (by first | exact fun j u hu => ⟨_, rfl, World.news_of_block (cs := #[.string nm, .slice none 0 0]) (t := 94) (fr := (0, 0)) (heap_alloc_new w7 _) j u hu⟩ | exact fun j u hu => ⟨_, rfl, World.news_of_block (cs := #[.string nm, .slice none 0 0]) (t := 94) (fr := (0, 0)) HB7.out j u hu⟩) (by simp [Value.oneCell']) (pl + 1) rfl (rowC fileC (l.take pl) (vl.take pl) ++ [.string nm, .slice none 0 0]) rfl (by unfold maxLen; omega) (by omega) (by first | exact HC.out.size | exact HC.out.drew.size | exact (HC.out.alloc _).size | exact (HC.out.alloc _).drew.size) ?_
          intro YA yc w12 ho12 hg12 hat12
          replace HC : Hid (Chg W3 w12 (fun _ => False)) := by
            obtain ⟨_, _, _, hzb⟩ := owns_formD HX7.out
            first
            | exact HC.out.trans (Chg.grown hg12) (fun k hk h => by have := (hzb k h.symm).1; omega)
            | exact HC.out.drew.trans (Chg.grown hg12) (fun k hk h => by have := (hzb k h.symm).1; omega)
            | exact (HC.out.alloc _).trans (Chg.grown hg12) (fun k hk h => by have := (hzb k h.symm).1; omega)
            | exact (HC.out.alloc _).drew.trans (Chg.grown hg12) (fun k hk h => by have := (hzb k h.symm).1; omega)
          have y12 := HYY.out _ HC.out
          have x12 := HC.out.cell (p := ⟨n, 1, none⟩) (fun h => h) HY1.out.2
          have HX12 := Lib.hid ho12
          clear ho12 hg12 hat12
          refine hK.out _ _ ?_ (fun hHeld5 => ?_)
          · (try dsimp only)
            first | exact x1 | exact x1a | exact x7 | exact x7a | exact x12 | exact x19 | exact x22 | exact cell_far (g := db) (b := n) (i := 1) (j := 1) (show db ≠ n from fun e => H3.out.2.2.2.2 (e ▸ H3.out.1.oD)) _ x19
          clear hK K hHeld4
          (try simp only [Act.put, List.setIfInBounds_toArray, List.set_cons_zero, List.set_cons_succ])
          refine wpAnyH_ready (rs := [19]) (by kernel_rfl) (by simp) ?_
          refine AllReadyH.cons (o := ⟨some 72, _, _, _, _, _⟩) rfl (fun K hK => ?_) AllReadyH.nil
          refine step_append_all (by rfl) _ _ _ (by rfl) W3.heap.size 94 j0 _ 2 40 Tryz.underlying71 HJ.out.1 HJ.out.2.1 HJ.out.2.2.1 HJ.out.2.2.2 rfl (by omega) (.slice YA (pl + 1) yc) (pl + 1) (rowC fileC (l.take pl) (vl.take pl) ++ [.string nm, .slice none 0 0]) (by rfl) (by first | exact HX12.out | exact HX12.out.drew) _ _ _ (rowC fileC (l.drop pl) (vl.drop pl)) (by rfl) (by have h := HU.out.2.2.2; omega) (by first | exact HND.out _ HC.out | exact HND.out _ HC.out.drew) HU.out.2.1 (pl + 1 + (l.length - pl)) (by omega) ((rowC fileC (l.take pl) (vl.take pl) ++ [.string nm, .slice none 0 0]) ++ rowC fileC (l.drop pl) (vl.drop pl)) rfl (by unfold maxLen; omega) (by omega) (by first | exact HC.out.size | exact HC.out.drew.size) ?_
          intro ZA zc w19 ho19 hg19 hat19
          replace HC : Hid (Chg W3 w19 (fun _ => False)) := by
            obtain ⟨_, _, _, hzb⟩ := owns_formD HX12.out
            first
            | exact HC.out.trans (Chg.grown hg19) (fun k hk h => by have := (hzb k h.symm).1; omega)
            | exact HC.out.drew.trans (Chg.grown hg19) (fun k hk h => by have := (hzb k h.symm).1; omega)
          have y19 := HYY.out _ HC.out
          have x19 := HC.out.cell (p := ⟨n, 1, none⟩) (fun h => h) HY1.out.2
          have q19 := (HC.out.holds (fun h => h) H3.out.1.hold).free 1
          have x22 := cell_far (g := db) (b := n) (i := 1) (j := 1) (show db ≠ n from fun e => H3.out.2.2.2.2 (e ▸ H3.out.1.oD)) (.slice ZA (pl + 1 + (l.length - pl)) zc) x19
          have HX19 := Lib.hid ho19
          clear ho19 hg19 hat19
          refine hK.out _ _ ?_ (fun hHeld6 => ?_)
          · (try dsimp only)
            first | exact x1 | exact x1a | exact x7 | exact x7a | exact x12 | exact x19 | exact x22 | exact cell_far (g := db) (b := n) (i := 1) (j := 1) (show db ≠ n from fun e => H3.out.2.2.2.2 (e ▸ H3.out.1.oD)) _ x19
          clear hK K hHeld5
          (try simp only [Act.put, List.setIfInBounds_toArray, List.set_cons_zero, List.set_cons_succ])
          refine wpAnyH_take (i := 20) (oi := ⟨some 73, _, _, _, _, _⟩) (v := ?_) rfl (by kernel_rfl) (by kernel_rfl) (by kernel_rfl) (fun _ _ _ h => h) (Or.inl ⟨by kernel_rfl, ?_⟩) (by assumption) ?_
          rotate_left
          · (intro w hSw; (try dsimp only at hSw); go_simp; (first | done | with_reducible rfl))
          (try simp only [Act.put, List.setIfInBounds_toArray, List.set_cons_zero, List.set_cons_succ])
          refine wpAnyH_take (i := 21) (oi := ⟨some 74, _, _, _, _, _⟩) (v := ?_) rfl (by kernel_rfl) (by kernel_rfl) (by kernel_rfl) (fun _ _ _ h => h) (Or.inl ⟨by kernel_rfl, ?_⟩) (by assumption) ?_
          rotate_left
          · (intro w hSw; (try dsimp only at hSw); go_simp; (first | done | with_reducible rfl))
          (try simp only [Act.put, List.setIfInBounds_toArray, List.set_cons_zero, List.set_cons_succ])
          refine wpAnyH_ready (rs := [22]) (by kernel_rfl) (by simp) ?_
          refine AllReadyH.cons rfl (fun K hK => ?_) AllReadyH.nil
          go_simp
          refine hK.out _ _ ?_ (fun hHeld7 => ?_)
          · (try dsimp only)
            first | exact x1 | exact x1a | exact x7 | exact x7a | exact x12 | exact x19 | exact x22 | exact cell_far (g := db) (b := n) (i := 1) (j := 1) (show db ≠ n from fun e => H3.out.2.2.2.2 (e ▸ H3.out.1.oD)) _ x19
          clear hK K hHeld6
          (try simp only [Act.put, List.setIfInBounds_toArray, List.set_cons_zero, List.set_cons_succ])
          refine wpAnyH_done (by kernel_rfl) ?_ _
          go_wp2
          all_goals
            (try simp only [Exit.inBlock, Exit.then])
            first
            | go_end0
            | refine bodyPost_ret (results_none rfl _ _ _) rfl ?_
            obtain ⟨z1, z2, z3, z4, z5, z6⟩ := HEND.out _ _ _ HC.out HX19.out
            first | exact ⟨rfl, z1, z2, z3, z4, z5, z6⟩ | exact ⟨rfl, z1, z2, ⟨z3, z4, z5⟩, z6⟩ | (have hq0 : pl + 1 + (l.length - pl) = pl + 1 := (by omega); rw [hq0] at z5 z6; exact ⟨rfl, z1, z2, z3, z4, z5, z6⟩)
    · have t0 : ((kv : Int) == 0) = false := by simp; omega
      have t0' : ¬ (kv : Int) = 0 := by omega
      have t0d : decide ((kv : Int) = 0) = false := decide_eq_false t0'
      obtain rfl : fb = true := HPF.out.2.symm.trans (by rw [← HKN.out.2.1]; exact HHY.out.1 (by rw [HKN.out.1]; exact k0))
      by_cases k1 : kv = 1
      · have t1 : ((kv : Int) == 1) = true := by simp; omega
        have t1' : (kv : Int) = 1 := by omega
        have HK1 := Lib.hid (And.intro k0 k1)
        obtain ⟨p, hp, hpn⟩ := fnd_some HPF.out.2
        rw [HPF.out.1] at hp
        have hplt := (List.getElem?_eq_some_iff.1 hp).1
        have hget := (asc_get HHY.out.2.1 nm).2 p HPF.out.2 (by rw [HPF.out.1]; exact hp)
        have hpq := HHY.out.2.2.2.2 p (List.mem_of_getElem? hp)
        rcases H3.out.1.fl.form with ⟨e1, e2⟩ | ⟨g5, c5, e1, hlc, hcm, hg5⟩
        · rw [e2] at hp; simp at hp
        subst e1
        have hset : setO l nm (p.2 ++ r.b) = l.set pl (p.1, p.2 ++ r.b) := by
          unfold setO
          rw [HPF.out.2, if_pos rfl, HPF.out.1, hpn]
        obtain ⟨g6, u6, eg, hby6, hcs6⟩ := H3.out.1.fl.at fileC_len hp
        obtain rfl : g5 = g6 := by injection eg with e; injection e
        obtain ⟨UA, uc, rfl, huc, _⟩ := id hby6
        have c1 := hcs6 1 _ rfl
        have hne : g5 ≠ db := fun e => (H3.out.1.oL g5 rfl).2 e
        obtain ⟨pq, hpq2⟩ : ∃ pq, p.2.length = pq := ⟨_, rfl⟩
        rw [hpq2] at hpq huc c1
        have HP := Lib.hid (And.intro hp (And.intro hset (And.intro hget.2 hpq2)))
        have HC := Lib.hid (Chg.refl W3 (fun _ => False))
        have HY1 := Lib.hid (And.intro y1 (And.intro x2 c1))
        have HNB : Hid (∀ W', Chg W3 W' (fun _ => False) → ∀ j u, (u8L r.b)[j]? = some u → ∃ ad, VA = some ad ∧ W'.cell? (ad.add j) = some u) := Lib.hid (fun W' hc => (H3.out.2.2.2.1.chg hc (fun _ h => h) (fun _ _ h => h)).news)
        have HNP : Hid (∀ W', Chg W3 W' (fun _ => False) → ∀ j u, (u8L p.2)[j]? = some u → ∃ ad, UA = some ad ∧ W'.cell? (ad.add j) = some u) := Lib.hid (fun W' hc => (hby6.chg hc (fun _ h => h) (fun _ _ h => h)).news)
        have HUL : Hid ((u8L p.2).length = pq ∧ (u8L r.b).length = bl) := Lib.hid ⟨by rw [u8L_length]; exact HP.out.2.2.2, by rw [u8L_length]; exact HKN.out.2.2⟩
        clear hp hpn hget hset eg hcs6 hby6 hpq2 k0 k1
        have HEND : Hid (∀ (w16 : World) (YA : Option Addr) (yc : Nat), Chg W3 w16 (fun _ => False) → w16.ownsRow W3.heap.size 5 1 (.slice YA (pq + bl) yc) (pq + bl) (u8L (p.2 ++ r.b)) →
            ∃ O' F' lv' rv', RDs (w16.setCell ⟨g5, pl * 2 + 1, none⟩ (.slice YA (pq + bl) yc)) O' F' db size lv' (r.appO l) rv' (h ++ [r]) ∧ TurnD w (w16.setCell ⟨g5, pl * 2 + 1, none⟩ (.slice YA (pq + bl) yc)) O F O' F') := fun w16 YA yc hc16 ho16 => by
          have hcs := Chg.set w16 ⟨g5, pl * 2 + 1, none⟩ (.slice YA (pq + bl) yc)
          have hlen : (p.2 ++ r.b).length = pq + bl := by rw [List.length_append, HP.out.2.2.2, HKN.out.2.2]
          have ho16' : w16.ownsRow W3.heap.size 5 1 (.slice YA (pq + bl) yc) (p.2 ++ r.b).length (u8L (p.2 ++ r.b)) := by rw [hlen]; exact ho16
          have hbo := ByR.own ho16'
          have hbo2 : ByR w16 (fun k => F k ∨ (W3.heap.size ≤ k ∧ k < w16.heap.size)) (.slice YA (pq + bl) yc) (p.2 ++ r.b) := hbo.chg (Chg.refl w16 (fun _ => False)) (fun _ h => .inr h) (fun _ _ h => h)
          have hfl16 : Files w16 (fun k => F k ∨ (W3.heap.size ≤ k ∧ k < w16.heap.size)) (.slice (some ⟨g5, 0, none⟩) l.length c5) l := H3.out.1.fl.chg hc16 (fun _ h => .inl h) (fun _ _ h => h) (fun _ _ h => h)
          have hg5 := H3.out.1.ltO g5 (H3.out.1.oL g5 rfl).1
          have hfs := Files.set hfl16 HP.out.1 (fun k hk e => by
            rcases hk with hk | hk
            · exact H3.out.1.off k hk (e ▸ (H3.out.1.oL g5 rfl).1)
            · omega) hbo2
          have hall : Chg W3 (w16.setCell ⟨g5, pl * 2 + 1, none⟩ (.slice YA (pq + bl) yc)) (fun k => k = db ∨ (Value.slice (some ⟨g5, 0, none⟩) l.length c5).ownBlock = some k) := (hc16.mono (T := fun k => k = db ∨ (Value.slice (some ⟨g5, 0, none⟩) l.length c5).ownBlock = some k) (fun _ _ h => h.elim)).trans hcs (fun k _ e => .inr (by rw [e]; rfl))
          obtain ⟨q1, q2⟩ := H3.out.1.files (lv' := .slice (some ⟨g5, 0, none⟩) l.length c5) (l' := l.set pl (p.1, p.2 ++ r.b)) (F' := fun k => F k ∨ (W3.heap.size ≤ k ∧ k < w16.heap.size)) hall ((hc16.holds (fun h => h) H3.out.1.hold).far (p := ⟨g5, pl * 2 + 1, none⟩) (Ne.symm hne) _) hfs (fun _ h => .inl h)
            (fun k hk => hk.imp id (fun h => h.1)) (fun k hk => by
              rcases hk with hk | hk
              · exact Nat.lt_of_lt_of_le (H3.out.1.ltF k hk) hall.size
              · exact Nat.lt_of_lt_of_le hk.2 hcs.size)
            (fun k hk => ⟨.inl hk, Nat.lt_of_lt_of_le (H3.out.1.ltO k (H3.out.1.oL k hk).1) hall.size⟩)
          have el : l.set pl (p.1, p.2 ++ r.b) = r.appO l := by
            rw [appO_at.2.1 (HKN.out.1.trans HK1.out.2), HKN.out.2.1, HP.out.2.2.1, Option.getD_some, HP.out.2.1]
          rw [← el]
          exact ⟨_, _, _, _, q1, H3.out.2.1.trans q2⟩
        go_wp2_with fail
        refine wp_region_held_drew (S := (fun w' => w'.cell? ⟨db, 1, none⟩ = some (.slice (some ⟨g5, 0, none⟩) l.length c5) ∧ w'.cell? ⟨n, 2, none⟩ = some (.slice VA bl vc))) (by kernel_rfl) ?_ (fun hHeld0 => ?_)
        · (try dsimp only)
          first | exact ⟨y1, x2⟩ | exact ⟨y7, x7⟩ | exact ⟨y8, x8⟩ | exact ⟨y9, x9⟩
        refine wpAnyH_take (i := 0) (oi := ⟨some 77, _, _, _, _, _⟩) (v := ?_) rfl (by kernel_rfl) (by kernel_rfl) (by kernel_rfl) (fun _ _ _ h => h) (Or.inl ⟨by kernel_rfl, ?_⟩) (by assumption) ?_
        rotate_left
        · (intro w hSw; (try dsimp only at hSw); go_simp; (first | done | with_reducible rfl))
        (try simp only [Act.put, List.setIfInBounds_toArray, List.set_cons_zero, List.set_cons_succ])
        refine wpAnyH_take (i := 1) (oi := ⟨some 78, _, _, _, _, _⟩) (v := ?_) rfl (by kernel_rfl) (by kernel_rfl) (by kernel_rfl) (fun _ _ _ h => h) (Or.inl ⟨by kernel_rfl, ?_⟩) (by assumption) ?_
        rotate_left
        · (intro w hSw; (try dsimp only at hSw); go_simp; (first | done | with_reducible rfl))
        (try simp only [Act.put, List.setIfInBounds_toArray, List.set_cons_zero, List.set_cons_succ])
        refine wpAnyH_take (i := 2) (oi := ⟨some 79, _, _, _, _, _⟩) (v := ?_) rfl (by kernel_rfl) (by kernel_rfl) (by kernel_rfl) (fun _ _ _ h => h) (Or.inl ⟨by kernel_rfl, ?_⟩) (by assumption) ?_
        rotate_left
        · (intro w hSw; (try dsimp only at hSw); go_simp; (first | done | with_reducible rfl))
        (try simp only [Act.put, List.setIfInBounds_toArray, List.set_cons_zero, List.set_cons_succ])
        refine wpAnyH_take (i := 3) (oi := ⟨some 80, _, _, _, _, _⟩) (v := ?_) rfl (by kernel_rfl) (by kernel_rfl) (by kernel_rfl) (fun _ _ _ h => h) (Or.inl ⟨by kernel_rfl, ?_⟩) (by assumption) ?_
        rotate_left
        · (intro w hSw; (try dsimp only at hSw); go_simp; (first | done | with_reducible rfl))
        (try simp only [Act.put, List.setIfInBounds_toArray, List.set_cons_zero, List.set_cons_succ])
        refine wpAnyH_take (i := 4) (oi := ⟨some 81, _, _, _, _, _⟩) (v := ?_) rfl (by kernel_rfl) (by kernel_rfl) (by kernel_rfl) (fun _ _ _ h => h) (Or.inl ⟨by kernel_rfl, ?_⟩) (by assumption) ?_
        rotate_left
        · (intro w hSw; (try dsimp only at hSw); go_simp; (first | done | with_reducible rfl))
        (try simp only [Act.put, List.setIfInBounds_toArray, List.set_cons_zero, List.set_cons_succ])
        refine wpAnyH_take (i := 5) (oi := ⟨some 82, _, _, _, _, _⟩) (v := ?_) rfl (by kernel_rfl) (by kernel_rfl) (by kernel_rfl) (fun _ _ _ h => h) (Or.inl ⟨by kernel_rfl, ?_⟩) (by assumption) ?_
        rotate_left
        · (intro w hSw; (try dsimp only at hSw); go_simp; (first | done | with_reducible rfl))
        (try simp only [Act.put, List.setIfInBounds_toArray, List.set_cons_zero, List.set_cons_succ])
        refine wpAnyH_take (i := 6) (oi := ⟨some 83, _, _, _, _, _⟩) (v := ?_) rfl (by kernel_rfl) (by kernel_rfl) (by kernel_rfl) (fun _ _ _ h => h) (Or.inl ⟨by kernel_rfl, ?_⟩) (by assumption) ?_
        rotate_left
        · (intro w hSw; (try dsimp only at hSw); go_simp; (first | done | with_reducible rfl))
        (try simp only [Act.put, List.setIfInBounds_toArray, List.set_cons_zero, List.set_cons_succ])
        refine wpAnyH_take (i := 7) (oi := ⟨some 84, _, _, _, _, _⟩) (v := ?_) rfl (by kernel_rfl) (by kernel_rfl) (by kernel_rfl) (fun _ _ _ h => h) (Or.inl ⟨by kernel_rfl, ?_⟩) (by assumption) ?_
        rotate_left
        · (intro w hSw; (try dsimp only at hSw); go_simp; (first | done | with_reducible rfl))
        (try simp only [Act.put, List.setIfInBounds_toArray, List.set_cons_zero, List.set_cons_succ])
        refine wpAnyH_take (i := 8) (oi := ⟨some 85, _, _, _, _, _⟩) (v := ?_) rfl (by kernel_rfl) (by kernel_rfl) (by kernel_rfl) (fun _ _ _ h => h) (Or.inl ⟨by kernel_rfl, ?_⟩) (by assumption) ?_
        rotate_left
        · (intro w hSw; (try dsimp only at hSw); go_simp; (first | done | with_reducible rfl))
        (try simp only [Act.put, List.setIfInBounds_toArray, List.set_cons_zero, List.set_cons_succ])
        refine wpAnyH_take (i := 9) (oi := ⟨some 86, _, _, _, _, _⟩) (v := ?_) rfl (by kernel_rfl) (by kernel_rfl) (by kernel_rfl) (fun _ _ _ h => h) (Or.inl ⟨by kernel_rfl, ?_⟩) (by assumption) ?_
        rotate_left
        · (intro w hSw; (try dsimp only at hSw); go_simp; (first | done | with_reducible rfl))
        (try simp only [Act.put, List.setIfInBounds_toArray, List.set_cons_zero, List.set_cons_succ])
        refine wpAnyH_take (i := 10) (oi := ⟨some 87, _, _, _, _, _⟩) (v := ?_) rfl (by kernel_rfl) (by kernel_rfl) (by kernel_rfl) (fun _ _ _ h => h) (Or.inl ⟨by kernel_rfl, ?_⟩) (by assumption) ?_
        rotate_left
        · (intro w hSw; (try dsimp only at hSw); go_simp; (first | done | with_reducible rfl))
        (try simp only [Act.put, List.setIfInBounds_toArray, List.set_cons_zero, List.set_cons_succ])
        refine wpAnyH_take (i := 11) (oi := ⟨some 88, _, _, _, _, _⟩) (v := ?_) rfl (by kernel_rfl) (by kernel_rfl) (by kernel_rfl) (fun _ _ _ h => h) (Or.inl ⟨by kernel_rfl, ?_⟩) (by assumption) ?_
        rotate_left
        · (intro w hSw; (try dsimp only at hSw); go_simp; (first | done | with_reducible rfl))
        (try simp only [Act.put, List.setIfInBounds_toArray, List.set_cons_zero, List.set_cons_succ])
        refine wpAnyH_take (i := 14) (oi := ⟨some 91, _, _, _, _, _⟩) (v := ?_) rfl (by kernel_rfl) (by kernel_rfl) (by kernel_rfl) (fun _ _ _ h => h) (Or.inl ⟨by kernel_rfl, ?_⟩) (by assumption) ?_
        rotate_left
        · (intro w hSw; (try dsimp only at hSw); go_simp; (first | done | with_reducible rfl))
        (try simp only [Act.put, List.setIfInBounds_toArray, List.set_cons_zero, List.set_cons_succ])
        refine wpAnyH_take (i := 15) (oi := ⟨some 92, _, _, _, _, _⟩) (v := ?_) rfl (by kernel_rfl) (by kernel_rfl) (by kernel_rfl) (fun _ _ _ h => h) (Or.inl ⟨by kernel_rfl, ?_⟩) (by assumption) ?_
        rotate_left
        · (intro w hSw; (try dsimp only at hSw); go_simp; (first | done | with_reducible rfl))
        (try simp only [Act.put, List.setIfInBounds_toArray, List.set_cons_zero, List.set_cons_succ])
        refine wpAnyH_ready (rs := [12]) (by kernel_rfl) (by simp) ?_
        refine AllReadyH.cons (o := ⟨some 89, _, _, _, _, _⟩) rfl (fun K hK => ?_) AllReadyH.nil
        go_simp
        refine hK.out _ _ ?_ (fun hHeld1 => ?_)
        · (try dsimp only)
          first | exact ⟨y1, x2⟩ | exact ⟨y7, x7⟩ | exact ⟨y8, x8⟩ | exact ⟨y9, x9⟩
        clear hK K hHeld0
        (try simp only [Act.put, List.setIfInBounds_toArray, List.set_cons_zero, List.set_cons_succ])
        refine wpAnyH_ready (rs := [13]) (by kernel_rfl) (by simp) ?_
        refine AllReadyH.cons (o := ⟨some 90, _, _, _, _, _⟩) rfl (fun K hK => ?_) AllReadyH.nil
        refine step_append_all (by rfl) _ _ _ (by rfl) W3.heap.size 5 b0 _ 1 1 Tryz.underlying55 HBI.out.1 HBI.out.2.1 HBI.out.2.2.1 HBI.out.2.2.2 rfl (by omega) (.slice none 0 0) 0 [] (by rfl) (World.ownsRow_nil _ _ _ _) _ _ _ (u8L p.2) (by rfl) (by rw [HUL.out.1, Nat.mul_one]) (by first | exact HNP.out _ HC.out | exact HNP.out _ HC.out.drew) (fun u hu => u8L_one hu) pq (Nat.zero_add _) (u8L p.2) (List.nil_append _) (by unfold maxLen; omega) (by omega) (by first | exact HC.out.size | exact HC.out.drew.size) ?_
        intro XA xc w7 ho7 hg7 hat7
        replace HC : Hid (Chg W3 w7 (fun _ => False)) := by
          first
          | exact HC.out.trans ((Chg.grown hg7).mono (fun _ _ h => by cases h)) (fun _ _ h => h)
          | exact HC.out.drew.trans ((Chg.grown hg7).mono (fun _ _ h => by cases h)) (fun _ _ h => h)
        have y7 := HC.out.cell (p := ⟨db, 1, none⟩) (fun h => h) HY1.out.1
        have x7 := HC.out.cell (p := ⟨n, 2, none⟩) (fun h => h) HY1.out.2.1
        have HX7 := Lib.hid ho7
        clear ho7 hg7 hat7
        refine hK.out _ _ ?_ (fun hHeld2 => ?_)
        · (try dsimp only)
          first | exact ⟨y1, x2⟩ | exact ⟨y7, x7⟩ | exact ⟨y8, x8⟩ | exact ⟨y9, x9⟩
        clear hK K hHeld1
        (try simp only [Act.put, List.setIfInBounds_toArray, List.set_cons_zero, List.set_cons_succ])
        refine wpAnyH_ready (rs := [16]) (by kernel_rfl) (by simp) ?_
        refine AllReadyH.cons (o := ⟨some 93, _, _, _, _, _⟩) rfl (fun K hK => ?_) AllReadyH.nil
        refine step_append_all (by rfl) _ _ _ (by rfl) W3.heap.size 5 b0 _ 1 1 Tryz.underlying55 HBI.out.1 HBI.out.2.1 HBI.out.2.2.1 HBI.out.2.2.2 rfl (by omega) (.slice XA pq xc) pq (u8L p.2) (by rfl) (by first | exact HX7.out | exact HX7.out.drew) _ _ _ (u8L r.b) (by rfl) (by rw [HUL.out.2, Nat.mul_one]) (by first | exact HNB.out _ HC.out | exact HNB.out _ HC.out.drew) (fun u hu => u8L_one hu) (pq + bl) rfl (u8L (p.2 ++ r.b)) (u8L_append _ _).symm (by unfold maxLen; omega) (by omega) (by first | exact HC.out.size | exact HC.out.drew.size) ?_
        intro YA yc w16 ho16 hg16 hat16
        replace HC : Hid (Chg W3 w16 (fun _ => False)) := by
          obtain ⟨_, _, _, hzb⟩ := owns_formD HX7.out
          first
          | exact HC.out.trans (Chg.grown hg16) (fun k hk h => by have := (hzb k h.symm).1; omega)
          | exact HC.out.drew.trans (Chg.grown hg16) (fun k hk h => by have := (hzb k h.symm).1; omega)
        have y8 := HC.out.cell (p := ⟨db, 1, none⟩) (fun h => h) HY1.out.1
        have x8 := HC.out.cell (p := ⟨n, 2, none⟩) (fun h => h) HY1.out.2.1
        have c8 := HC.out.cell (p := ⟨g5, pl * 2 + 1, none⟩) (fun h => h) HY1.out.2.2
        have y9 := cell_far (g := g5) (i := pl * 2 + 1) (j := 1) hne (.slice YA (pq + bl) yc) y8
        have x9 := cell_far (g := g5) (b := n) (i := pl * 2 + 1) (j := 2) (show g5 ≠ n from fun e => H3.out.2.2.2.2 (e ▸ (H3.out.1.oL g5 rfl).1)) (.slice YA (pq + bl) yc) x8
        have q8 := own_freeN (HC.out.owns HL.out.2.1 (fun _ _ h => h)) (pl * 2 + 1)
        have HY16 := Lib.hid ho16
        clear ho16 hg16 hat16
        refine hK.out _ _ ?_ (fun hHeld3 => ?_)
        · (try dsimp only)
          first | exact ⟨y1, x2⟩ | exact ⟨y7, x7⟩ | exact ⟨y8, x8⟩ | exact ⟨y9, x9⟩
        clear hK K hHeld2
        (try simp only [Act.put, List.setIfInBounds_toArray, List.set_cons_zero, List.set_cons_succ])
        refine wpAnyH_take (i := 17) (oi := ⟨some 94, _, _, _, _, _⟩) (v := ?_) rfl (by kernel_rfl) (by kernel_rfl) (by kernel_rfl) (fun _ _ _ h => h) (Or.inl ⟨by kernel_rfl, ?_⟩) (by assumption) ?_
        rotate_left
        · (intro w hSw; (try dsimp only at hSw); go_simp; (first | done | with_reducible rfl))
        (try simp only [Act.put, List.setIfInBounds_toArray, List.set_cons_zero, List.set_cons_succ])
        refine wpAnyH_take (i := 18) (oi := ⟨some 95, _, _, _, _, _⟩) (v := ?_) rfl (by kernel_rfl) (by kernel_rfl) (by kernel_rfl) (fun _ _ _ h => h) (Or.inl ⟨by kernel_rfl, ?_⟩) (by assumption) ?_
        rotate_left
        · (intro w hSw; (try dsimp only at hSw); go_simp; (first | done | with_reducible rfl))
        (try simp only [Act.put, List.setIfInBounds_toArray, List.set_cons_zero, List.set_cons_succ])
        refine wpAnyH_ready (rs := [19]) (by kernel_rfl) (by simp) ?_
        refine AllReadyH.cons rfl (fun K hK => ?_) AllReadyH.nil
        go_simp
        refine hK.out _ _ ?_ (fun hHeld4 => ?_)
        · (try dsimp only)
          first | exact ⟨y1, x2⟩ | exact ⟨y7, x7⟩ | exact ⟨y8, x8⟩ | exact ⟨y9, x9⟩
        clear hK K hHeld3
        (try simp only [Act.put, List.setIfInBounds_toArray, List.set_cons_zero, List.set_cons_succ])
        refine wpAnyH_done (by kernel_rfl) ?_ _
        go_wp2
        all_goals
          go_end0
          obtain ⟨z1, z2, z3, z4, z5, z6⟩ := HEND.out _ _ _ HC.out HY16.out
          first | exact ⟨rfl, z1, z2, z3, z4, z5, z6⟩ | exact ⟨rfl, z1, z2, ⟨z3, z4, z5⟩, z6⟩
      · have t1 : ((kv : Int) == 1) = false := by simp; omega
        have t1' : ¬ (kv : Int) = 1 := by omega
        have HK1 := Lib.hid (And.intro k0 k1)
        obtain ⟨p, hp, hpn⟩ := fnd_some HPF.out.2
        rw [HPF.out.1] at hp
        have hplt := (List.getElem?_eq_some_iff.1 hp).1
        rcases H3.out.1.fl.form with ⟨e1, e2⟩ | ⟨g5, c5, e1, hlc, hcm, hg5⟩
        · rw [e2] at hp; simp at hp
        subst e1
        clear hp hpn k0 k1
        unfold maxLen at hcm
        obtain ⟨u1, u2, _, u4, _⟩ := cut_facts HL.out.1 HL.out.2.1 HL.out.2.2 pl
        obtain ⟨v1, _, v3, _, v5⟩ := cut_facts HL.out.1 HL.out.2.1 HL.out.2.2 (pl + 1)
        rw [Nat.min_eq_left hple] at u4
        have HU := Lib.hid (And.intro u1 (And.intro u2 u4))
        have HV := Lib.hid (And.intro v1 (And.intro v3 v5))
        have HC := Lib.hid (Chg.refl W3 (fun _ => False))
        have HY1 := Lib.hid y1
        have hplc : pl ≤ c5 := by omega
        have hw1 : IntKind.i64.wrap ((pl : Int) + 1) = (pl : Int) + 1 := IntWalk.i64_in _ (by omega)
        have hp1 : (pl : Int) + 1 ≤ (l.length : Int) := by omega
        have hp0 : (0 : Int) ≤ (pl : Int) + 1 := by omega
        have hp2 : pl + 1 ≤ l.length := by omega
        have HVN : Hid (∀ W', Chg W3 W' (fun _ => False) → ∀ j u, (rowC fileC (l.drop (pl + 1)) (vl.drop (pl + 1)))[j]? = some u → ∃ ad, (if c5 = pl + 1 then some (⟨g5, 0, none⟩ : Addr) else some ⟨g5, (pl + 1) * 2, none⟩) = some ad ∧ W'.cell? (ad.add j) = some u) := fun W' hc j u hu => by
          by_cases e : c5 = pl + 1
          · have h0 := v5
            rw [show l.length - (pl + 1) = 0 by omega, Nat.zero_mul] at h0
            rw [List.length_eq_zero_iff.1 h0] at hu
            simp at hu
          · rw [if_neg e]
            exact (v1 W' hc).2 g5 rfl j u hu
        clear u1 u2 u4 v1 v3 v5
        have HEND : Hid (∀ (w15 : World) (YA : Option Addr) (yc : Nat), Chg W3 w15 (fun _ => False) → w15.ownsRow W3.heap.size 94 2 (.slice YA (pl + (l.length - (pl + 1))) yc) (pl + (l.length - (pl + 1))) (rowC fileC (l.take pl) (vl.take pl) ++ rowC fileC (l.drop (pl + 1)) (vl.drop (pl + 1))) →
            ∃ O' F' lv' rv', RDs (w15.setCell ⟨db, 1, none⟩ (.slice YA (pl + (l.length - (pl + 1))) yc)) O' F' db size lv' (r.appO l) rv' (h ++ [r]) ∧ TurnD w (w15.setCell ⟨db, 1, none⟩ (.slice YA (pl + (l.length - (pl + 1))) yc)) O F O' F') := fun w15 YA yc hc15 ho15 => by
          have hh15 := hc15.holds (fun h => h) H3.out.1.hold
          have hcs := Chg.set w15 ⟨db, 1, none⟩ (.slice YA (pl + (l.length - (pl + 1))) yc)
          have hdl : delO l nm = l.take pl ++ l.drop (pl + 1) := by unfold delO; rw [HPF.out.1]
          have hll : (delO l nm).length = pl + (l.length - (pl + 1)) := by rw [hdl, List.length_append, List.length_take, List.length_drop, Nat.min_eq_left hple]
          refine HFIN.out _ _ (delO l nm) ((hc15.mono (fun _ _ h => h.elim)).trans hcs (fun _ _ h => h)) (hh15.set 1 _) ⟨vl.take pl ++ vl.drop (pl + 1), ?_, ?_, ?_⟩ ?_
          · rw [hll, List.length_append, List.length_take, List.length_drop, HL.out.1, Nat.min_eq_left hple]
          · rw [hll, hdl, rowC_append _ _ (by rw [List.length_take, List.length_take, HL.out.1])]
            exact hcs.owns ho15 (fun k hk e => by
              obtain ⟨_, _, _, hzb⟩ := owns_formD ho15
              have h1 := (hzb k hk).1
              simp only at e
              omega)
          · intro j x u hx hu
            rw [hdl] at hx
            by_cases hj : j < pl
            · rw [List.getElem?_append_left (by rw [List.length_take]; omega), List.getElem?_take_of_lt hj] at hx
              rw [List.getElem?_append_left (by rw [List.length_take, HL.out.1]; omega), List.getElem?_take_of_lt hj] at hu
              exact HL.out.2.2 _ x u hx hu
            · rw [List.getElem?_append_right (by rw [List.length_take]; omega), List.length_take, List.getElem?_drop, Nat.min_eq_left hple] at hx
              rw [List.getElem?_append_right (by rw [List.length_take, HL.out.1]; omega), List.length_take, List.getElem?_drop, HL.out.1, Nat.min_eq_left hple] at hu
              exact HL.out.2.2 _ x u hx hu
          · rw [appO_at.2.2 (by rw [HKN.out.1]; exact HK1.out.1) (by rw [HKN.out.1]; exact HK1.out.2), HKN.out.2.1]
        go_wp2_with fail
        refine wp_region_held_drew (S := (fun _ => True)) (by kernel_rfl) ?_ (fun hHeld0 => ?_)
        · (try dsimp only)
          all_goals trivial
        refine wpAnyH_take (i := 0) (oi := ⟨some 25, _, _, _, _, _⟩) (v := ?_) rfl (by kernel_rfl) (by kernel_rfl) (by kernel_rfl) (fun _ _ _ h => h) (Or.inl ⟨by kernel_rfl, ?_⟩) (by assumption) ?_
        rotate_left
        · (intro w hSw; (try dsimp only at hSw); go_simp; (first | done | with_reducible rfl))
        (try simp only [Act.put, List.setIfInBounds_toArray, List.set_cons_zero, List.set_cons_succ])
        refine wpAnyH_take (i := 1) (oi := ⟨some 26, _, _, _, _, _⟩) (v := ?_) rfl (by kernel_rfl) (by kernel_rfl) (by kernel_rfl) (fun _ _ _ h => h) (Or.inl ⟨by kernel_rfl, ?_⟩) (by assumption) ?_
        rotate_left
        · (intro w hSw; (try dsimp only at hSw); go_simp; (first | done | with_reducible rfl))
        (try simp only [Act.put, List.setIfInBounds_toArray, List.set_cons_zero, List.set_cons_succ])
        refine wpAnyH_take (i := 2) (oi := ⟨some 27, _, _, _, _, _⟩) (v := ?_) rfl (by kernel_rfl) (by kernel_rfl) (by kernel_rfl) (fun _ _ _ h => h) (Or.inl ⟨by kernel_rfl, ?_⟩) (by assumption) ?_
        rotate_left
        · (intro w hSw; (try dsimp only at hSw); go_simp; (first | done | with_reducible rfl))
        (try simp only [Act.put, List.setIfInBounds_toArray, List.set_cons_zero, List.set_cons_succ])
        refine wpAnyH_take (i := 3) (oi := ⟨some 28, _, _, _, _, _⟩) (v := ?_) rfl (by kernel_rfl) (by kernel_rfl) (by kernel_rfl) (fun _ _ _ h => h) (Or.inl ⟨by kernel_rfl, ?_⟩) (by assumption) ?_
        rotate_left
        · (intro w hSw; (try dsimp only at hSw); go_simp; (first | done | with_reducible rfl))
        (try simp only [Act.put, List.setIfInBounds_toArray, List.set_cons_zero, List.set_cons_succ])
        refine wpAnyH_take (i := 5) (oi := ⟨some 30, _, _, _, _, _⟩) (v := ?_) rfl (by kernel_rfl) (by kernel_rfl) (by kernel_rfl) (fun _ _ _ h => h) (Or.inl ⟨by kernel_rfl, ?_⟩) (by assumption) ?_
        rotate_left
        · (intro w hSw; (try dsimp only at hSw); go_simp; (first | done | with_reducible rfl))
        (try simp only [Act.put, List.setIfInBounds_toArray, List.set_cons_zero, List.set_cons_succ])
        refine wpAnyH_take (i := 8) (oi := ⟨some 33, _, _, _, _, _⟩) (v := ?_) rfl (by kernel_rfl) (by kernel_rfl) (by kernel_rfl) (fun _ _ _ h => h) (Or.inl ⟨by kernel_rfl, ?_⟩) (by assumption) ?_
        rotate_left
        · (intro w hSw; (try dsimp only at hSw); go_simp; (first | done | with_reducible rfl))
        (try simp only [Act.put, List.setIfInBounds_toArray, List.set_cons_zero, List.set_cons_succ])
        refine wpAnyH_take (i := 9) (oi := ⟨some 34, _, _, _, _, _⟩) (v := ?_) rfl (by kernel_rfl) (by kernel_rfl) (by kernel_rfl) (fun _ _ _ h => h) (Or.inl ⟨by kernel_rfl, ?_⟩) (by assumption) ?_
        rotate_left
        · (intro w hSw; (try dsimp only at hSw); go_simp; (first | done | with_reducible rfl))
        (try simp only [Act.put, List.setIfInBounds_toArray, List.set_cons_zero, List.set_cons_succ])
        refine wpAnyH_take (i := 10) (oi := ⟨some 35, _, _, _, _, _⟩) (v := ?_) rfl (by kernel_rfl) (by kernel_rfl) (by kernel_rfl) (fun _ _ _ h => h) (Or.inl ⟨by kernel_rfl, ?_⟩) (by assumption) ?_
        rotate_left
        · (intro w hSw; (try dsimp only at hSw); go_simp; (first | done | with_reducible rfl))
        (try simp only [Act.put, List.setIfInBounds_toArray, List.set_cons_zero, List.set_cons_succ])
        refine wpAnyH_take (i := 12) (oi := ⟨some 37, _, _, _, _, _⟩) (v := ?_) rfl (by kernel_rfl) (by kernel_rfl) (by kernel_rfl) (fun _ _ _ h => h) (Or.inl ⟨by kernel_rfl, ?_⟩) (by assumption) ?_
        rotate_left
        · (intro w hSw; (try dsimp only at hSw); go_simp; (first | done | with_reducible rfl))
        (try simp only [Act.put, List.setIfInBounds_toArray, List.set_cons_zero, List.set_cons_succ])
        refine wpAnyH_take (i := 13) (oi := ⟨some 38, _, _, _, _, _⟩) (v := ?_) rfl (by kernel_rfl) (by kernel_rfl) (by kernel_rfl) (fun _ _ _ h => h) (Or.inl ⟨by kernel_rfl, ?_⟩) (by assumption) ?_
        rotate_left
        · (intro w hSw; (try dsimp only at hSw); go_simp; (first | done | with_reducible rfl))
        (try simp only [Act.put, List.setIfInBounds_toArray, List.set_cons_zero, List.set_cons_succ])
        refine wpAnyH_ready (rs := [4, 11]) (by kernel_rfl) (by simp) ?_
        refine AllReadyH.cons (o := ⟨some 29, _, _, _, _, _⟩) rfl (fun K hK => ?_) ?_
        · skip
          go_simp
          refine hK.out _ _ ?_ (fun hHeld1 => ?_)
          · (try dsimp only)
            all_goals trivial
          clear hK K hHeld0
          (try simp only [Act.put, List.setIfInBounds_toArray, List.set_cons_zero, List.set_cons_succ])
          refine wpAnyH_take (i := 6) (oi := ⟨some 31, _, _, _, _, _⟩) (v := ?_) rfl (by kernel_rfl) (by kernel_rfl) (by kernel_rfl) (fun _ _ _ h => h) (Or.inl ⟨by kernel_rfl, ?_⟩) (by assumption) ?_
          rotate_left
          · (intro w hSw; (try dsimp only at hSw); go_simp; (first | done | with_reducible rfl))
          (try simp only [Act.put, List.setIfInBounds_toArray, List.set_cons_zero, List.set_cons_succ])
          refine wpAnyH_ready (rs := [7, 11]) (by kernel_rfl) (by simp) ?_
          refine AllReadyH.cons (o := ⟨some 32, _, _, _, _, _⟩) rfl (fun K hK => ?_) ?_
          · skip
            refine step_append_all (by rfl) _ _ _ (by rfl) W3.heap.size 94 j0 _ 2 40 Tryz.underlying71 HJ.out.1 HJ.out.2.1 HJ.out.2.2.1 HJ.out.2.2.2 rfl (by omega) (.slice none 0 0) 0 [] (by rfl) (World.ownsRow_nil _ _ _ _) _ _ _ (rowC fileC (l.take pl) (vl.take pl)) (by rfl) HU.out.2.2 (by first | exact (HU.out.1 _ HC.out).1 | exact (HU.out.1 _ HC.out.drew).1) HU.out.2.1 pl (Nat.zero_add _) (rowC fileC (l.take pl) (vl.take pl)) (List.nil_append _) (by unfold maxLen; omega) (by omega) (by first | exact HC.out.size | exact HC.out.drew.size) ?_
            intro XA xc w7 ho7 hg7 hat7
            replace HC : Hid (Chg W3 w7 (fun _ => False)) := by
              first
              | exact HC.out.trans ((Chg.grown hg7).mono (fun _ _ h => by cases h)) (fun _ _ h => h)
              | exact HC.out.drew.trans ((Chg.grown hg7).mono (fun _ _ h => by cases h)) (fun _ _ h => h)
            have y1 := HC.out.cell (p := ⟨db, 1, none⟩) (fun h => h) HY1.out
            have HX7 := Lib.hid ho7
            clear ho7 hg7 hat7
            refine hK.out _ _ ?_ (fun hHeld2 => ?_)
            · (try dsimp only)
              all_goals trivial
            clear hK K hHeld1
            (try simp only [Act.put, List.setIfInBounds_toArray, List.set_cons_zero, List.set_cons_succ])
            refine wpAnyH_ready (rs := [11]) (by kernel_rfl) (by simp) ?_
            refine AllReadyH.cons (o := ⟨some 36, _, _, _, _, _⟩) rfl (fun K hK => ?_) AllReadyH.nil
            go_simp
            refine hK.out _ _ ?_ (fun hHeld3 => ?_)
            · (try dsimp only)
              all_goals trivial
            clear hK K hHeld2
            (try simp only [Act.put, List.setIfInBounds_toArray, List.set_cons_zero, List.set_cons_succ])
            refine wpAnyH_take (i := 14) (oi := ⟨some 39, _, _, _, _, _⟩) (v := ?_) rfl (by kernel_rfl) (by kernel_rfl) (by kernel_rfl) (fun _ _ _ h => h) (Or.inl ⟨by kernel_rfl, ?_⟩) (by assumption) ?_
            rotate_left
            · (intro w hSw; (try dsimp only at hSw); go_simp; (first | done | with_reducible rfl))
            (try simp only [Act.put, List.setIfInBounds_toArray, List.set_cons_zero, List.set_cons_succ])
            refine wpAnyH_ready (rs := [15]) (by kernel_rfl) (by simp) ?_
            refine AllReadyH.cons (o := ⟨some 40, _, _, _, _, _⟩) rfl (fun K hK => ?_) AllReadyH.nil
            refine step_append_all (by rfl) _ _ _ (by rfl) W3.heap.size 94 j0 _ 2 40 Tryz.underlying71 HJ.out.1 HJ.out.2.1 HJ.out.2.2.1 HJ.out.2.2.2 rfl (by omega) (.slice XA pl xc) pl (rowC fileC (l.take pl) (vl.take pl)) (by rfl) (by first | exact HX7.out | exact HX7.out.drew) _ _ _ (rowC fileC (l.drop (pl + 1)) (vl.drop (pl + 1))) (by rfl) (by rw [HV.out.2.2]) (by first | exact HVN.out _ HC.out | exact HVN.out _ HC.out.drew) HV.out.2.1 (pl + (l.length - (pl + 1))) rfl (rowC fileC (l.take pl) (vl.take pl) ++ rowC fileC (l.drop (pl + 1)) (vl.drop (pl + 1))) rfl (by unfold maxLen; omega) (by omega) (by first | exact HC.out.size | exact HC.out.drew.size) ?_
            intro YA yc w15 ho15 hg15 hat15
            replace HC : Hid (Chg W3 w15 (fun _ => False)) := by
              obtain ⟨_, _, _, hzb⟩ := owns_formD HX7.out
              first
              | exact HC.out.trans (Chg.grown hg15) (fun k hk h => by have := (hzb k h.symm).1; omega)
              | exact HC.out.drew.trans (Chg.grown hg15) (fun k hk h => by have := (hzb k h.symm).1; omega)
            have hh15 := HC.out.holds (fun h => h) H3.out.1.hold
            have y1 := HC.out.cell (p := ⟨db, 1, none⟩) (fun h => h) HY1.out
            have q2 := hh15.free 1
            have HY15 := Lib.hid (And.intro ho15 hh15)
            clear ho15 hg15 hat15
            refine hK.out _ _ ?_ (fun hHeld4 => ?_)
            · (try dsimp only)
              all_goals trivial
            clear hK K hHeld3
            (try simp only [Act.put, List.setIfInBounds_toArray, List.set_cons_zero, List.set_cons_succ])
            refine wpAnyH_take (i := 16) (oi := ⟨some 41, _, _, _, _, _⟩) (v := ?_) rfl (by kernel_rfl) (by kernel_rfl) (by kernel_rfl) (fun _ _ _ h => h) (Or.inl ⟨by kernel_rfl, ?_⟩) (by assumption) ?_
            rotate_left
            · (intro w hSw; (try dsimp only at hSw); go_simp; (first | done | with_reducible rfl))
            (try simp only [Act.put, List.setIfInBounds_toArray, List.set_cons_zero, List.set_cons_succ])
            refine wpAnyH_take (i := 17) (oi := ⟨some 42, _, _, _, _, _⟩) (v := ?_) rfl (by kernel_rfl) (by kernel_rfl) (by kernel_rfl) (fun _ _ _ h => h) (Or.inl ⟨by kernel_rfl, ?_⟩) (by assumption) ?_
            rotate_left
            · (intro w hSw; (try dsimp only at hSw); go_simp; (first | done | with_reducible rfl))
            (try simp only [Act.put, List.setIfInBounds_toArray, List.set_cons_zero, List.set_cons_succ])
            refine wpAnyH_ready (rs := [18]) (by kernel_rfl) (by simp) ?_
            refine AllReadyH.cons rfl (fun K hK => ?_) AllReadyH.nil
            go_simp
            refine hK.out _ _ ?_ (fun hHeld5 => ?_)
            · (try dsimp only)
              all_goals trivial
            clear hK K hHeld4
            (try simp only [Act.put, List.setIfInBounds_toArray, List.set_cons_zero, List.set_cons_succ])
            refine wpAnyH_done (by kernel_rfl) ?_ _
            go_wp2
            all_goals
              go_end0
              obtain ⟨z1, z2, z3, z4, z5, z6⟩ := HEND.out _ _ _ HC.out HY15.out.1
              first | exact ⟨rfl, z1, z2, z3, z4, z5, z6⟩ | exact ⟨rfl, z1, z2, ⟨z3, z4, z5⟩, z6⟩
          refine AllReadyH.cons (o := ⟨some 36, _, _, _, _, _⟩) rfl (fun K hK => ?_) AllReadyH.nil
          go_simp
          refine hK.out _ _ ?_ (fun hHeld2 => ?_)
          · (try dsimp only)
            all_goals trivial
          clear hK K hHeld1
          (try simp only [Act.put, List.setIfInBounds_toArray, List.set_cons_zero, List.set_cons_succ])
          refine wpAnyH_take (i := 14) (oi := ⟨some 39, _, _, _, _, _⟩) (v := ?_) rfl (by kernel_rfl) (by kernel_rfl) (by kernel_rfl) (fun _ _ _ h => h) (Or.inl ⟨by kernel_rfl, ?_⟩) (by assumption) ?_
          rotate_left
          · (intro w hSw; (try dsimp only at hSw); go_simp; (first | done | with_reducible rfl))
          (try simp only [Act.put, List.setIfInBounds_toArray, List.set_cons_zero, List.set_cons_succ])
          refine wpAnyH_ready (rs := [7]) (by kernel_rfl) (by simp) ?_
          refine AllReadyH.cons (o := ⟨some 32, _, _, _, _, _⟩) rfl (fun K hK => ?_) AllReadyH.nil
          refine step_append_all (by rfl) _ _ _ (by rfl) W3.heap.size 94 j0 _ 2 40 Tryz.underlying71 HJ.out.1 HJ.out.2.1 HJ.out.2.2.1 HJ.out.2.2.2 rfl (by omega) (.slice none 0 0) 0 [] (by rfl) (World.ownsRow_nil _ _ _ _) _ _ _ (rowC fileC (l.take pl) (vl.take pl)) (by rfl) HU.out.2.2 (by first | exact (HU.out.1 _ HC.out).1 | exact (HU.out.1 _ HC.out.drew).1) HU.out.2.1 pl (Nat.zero_add _) (rowC fileC (l.take pl) (vl.take pl)) (List.nil_append _) (by unfold maxLen; omega) (by omega) (by first | exact HC.out.size | exact HC.out.drew.size) ?_
          intro XA xc w7 ho7 hg7 hat7
          replace HC : Hid (Chg W3 w7 (fun _ => False)) := by
            first
            | exact HC.out.trans ((Chg.grown hg7).mono (fun _ _ h => by cases h)) (fun _ _ h => h)
            | exact HC.out.drew.trans ((Chg.grown hg7).mono (fun _ _ h => by cases h)) (fun _ _ h => h)
          have y1 := HC.out.cell (p := ⟨db, 1, none⟩) (fun h => h) HY1.out
          have HX7 := Lib.hid ho7
          clear ho7 hg7 hat7
          refine hK.out _ _ ?_ (fun hHeld3 => ?_)
          · (try dsimp only)
            all_goals trivial
          clear hK K hHeld2
          (try simp only [Act.put, List.setIfInBounds_toArray, List.set_cons_zero, List.set_cons_succ])
          refine wpAnyH_ready (rs := [15]) (by kernel_rfl) (by simp) ?_
          refine AllReadyH.cons (o := ⟨some 40, _, _, _, _, _⟩) rfl (fun K hK => ?_) AllReadyH.nil
          refine step_append_all (by rfl) _ _ _ (by rfl) W3.heap.size 94 j0 _ 2 40 Tryz.underlying71 HJ.out.1 HJ.out.2.1 HJ.out.2.2.1 HJ.out.2.2.2 rfl (by omega) (.slice XA pl xc) pl (rowC fileC (l.take pl) (vl.take pl)) (by rfl) (by first | exact HX7.out | exact HX7.out.drew) _ _ _ (rowC fileC (l.drop (pl + 1)) (vl.drop (pl + 1))) (by rfl) (by rw [HV.out.2.2]) (by first | exact HVN.out _ HC.out | exact HVN.out _ HC.out.drew) HV.out.2.1 (pl + (l.length - (pl + 1))) rfl (rowC fileC (l.take pl) (vl.take pl) ++ rowC fileC (l.drop (pl + 1)) (vl.drop (pl + 1))) rfl (by unfold maxLen; omega) (by omega) (by first | exact HC.out.size | exact HC.out.drew.size) ?_
          intro YA yc w15 ho15 hg15 hat15
          replace HC : Hid (Chg W3 w15 (fun _ => False)) := by
            obtain ⟨_, _, _, hzb⟩ := owns_formD HX7.out
            first
            | exact HC.out.trans (Chg.grown hg15) (fun k hk h => by have := (hzb k h.symm).1; omega)
            | exact HC.out.drew.trans (Chg.grown hg15) (fun k hk h => by have := (hzb k h.symm).1; omega)
          have hh15 := HC.out.holds (fun h => h) H3.out.1.hold
          have y1 := HC.out.cell (p := ⟨db, 1, none⟩) (fun h => h) HY1.out
          have q2 := hh15.free 1
          have HY15 := Lib.hid (And.intro ho15 hh15)
          clear ho15 hg15 hat15
          refine hK.out _ _ ?_ (fun hHeld4 => ?_)
          · (try dsimp only)
            all_goals trivial
          clear hK K hHeld3
          (try simp only [Act.put, List.setIfInBounds_toArray, List.set_cons_zero, List.set_cons_succ])
          refine wpAnyH_take (i := 16) (oi := ⟨some 41, _, _, _, _, _⟩) (v := ?_) rfl (by kernel_rfl) (by kernel_rfl) (by kernel_rfl) (fun _ _ _ h => h) (Or.inl ⟨by kernel_rfl, ?_⟩) (by assumption) ?_
          rotate_left
          · (intro w hSw; (try dsimp only at hSw); go_simp; (first | done | with_reducible rfl))
          (try simp only [Act.put, List.setIfInBounds_toArray, List.set_cons_zero, List.set_cons_succ])
          refine wpAnyH_take (i := 17) (oi := ⟨some 42, _, _, _, _, _⟩) (v := ?_) rfl (by kernel_rfl) (by kernel_rfl) (by kernel_rfl) (fun _ _ _ h => h) (Or.inl ⟨by kernel_rfl, ?_⟩) (by assumption) ?_
          rotate_left
          · (intro w hSw; (try dsimp only at hSw); go_simp; (first | done | with_reducible rfl))
          (try simp only [Act.put, List.setIfInBounds_toArray, List.set_cons_zero, List.set_cons_succ])
          refine wpAnyH_ready (rs := [18]) (by kernel_rfl) (by simp) ?_
          refine AllReadyH.cons rfl (fun K hK => ?_) AllReadyH.nil
          go_simp
          refine hK.out _ _ ?_ (fun hHeld5 => ?_)
          · (try dsimp only)
            all_goals trivial
          clear hK K hHeld4
          (try simp only [Act.put, List.setIfInBounds_toArray, List.set_cons_zero, List.set_cons_succ])
          refine wpAnyH_done (by kernel_rfl) ?_ _
          go_wp2
          all_goals
            go_end0
            obtain ⟨z1, z2, z3, z4, z5, z6⟩ := HEND.out _ _ _ HC.out HY15.out.1
            first | exact ⟨rfl, z1, z2, z3, z4, z5, z6⟩ | exact ⟨rfl, z1, z2, ⟨z3, z4, z5⟩, z6⟩
        refine AllReadyH.cons (o := ⟨some 36, _, _, _, _, _⟩) rfl (fun K hK => ?_) AllReadyH.nil
        go_simp
        refine hK.out _ _ ?_ (fun hHeld1 => ?_)
        · (try dsimp only)
          all_goals trivial
        clear hK K hHeld0
        (try simp only [Act.put, List.setIfInBounds_toArray, List.set_cons_zero, List.set_cons_succ])
        refine wpAnyH_take (i := 14) (oi := ⟨some 39, _, _, _, _, _⟩) (v := ?_) rfl (by kernel_rfl) (by kernel_rfl) (by kernel_rfl) (fun _ _ _ h => h) (Or.inl ⟨by kernel_rfl, ?_⟩) (by assumption) ?_
        rotate_left
        · (intro w hSw; (try dsimp only at hSw); go_simp; (first | done | with_reducible rfl))
        (try simp only [Act.put, List.setIfInBounds_toArray, List.set_cons_zero, List.set_cons_succ])
        refine wpAnyH_ready (rs := [4]) (by kernel_rfl) (by simp) ?_
        refine AllReadyH.cons (o := ⟨some 29, _, _, _, _, _⟩) rfl (fun K hK => ?_) AllReadyH.nil
        go_simp
        refine hK.out _ _ ?_ (fun hHeld2 => ?_)
        · (try dsimp only)
          all_goals trivial
        clear hK K hHeld1
        (try simp only [Act.put, List.setIfInBounds_toArray, List.set_cons_zero, List.set_cons_succ])
        refine wpAnyH_take (i := 6) (oi := ⟨some 31, _, _, _, _, _⟩) (v := ?_) rfl (by kernel_rfl) (by kernel_rfl) (by kernel_rfl) (fun _ _ _ h => h) (Or.inl ⟨by kernel_rfl, ?_⟩) (by assumption) ?_
        rotate_left
        · (intro w hSw; (try dsimp only at hSw); go_simp; (first | done | with_reducible rfl))
        (try simp only [Act.put, List.setIfInBounds_toArray, List.set_cons_zero, List.set_cons_succ])
        refine wpAnyH_ready (rs := [7]) (by kernel_rfl) (by simp) ?_
        refine AllReadyH.cons (o := ⟨some 32, _, _, _, _, _⟩) rfl (fun K hK => ?_) AllReadyH.nil
        refine step_append_all (by rfl) _ _ _ (by rfl) W3.heap.size 94 j0 _ 2 40 Tryz.underlying71 HJ.out.1 HJ.out.2.1 HJ.out.2.2.1 HJ.out.2.2.2 rfl (by omega) (.slice none 0 0) 0 [] (by rfl) (World.ownsRow_nil _ _ _ _) _ _ _ (rowC fileC (l.take pl) (vl.take pl)) (by rfl) HU.out.2.2 (by first | exact (HU.out.1 _ HC.out).1 | exact (HU.out.1 _ HC.out.drew).1) HU.out.2.1 pl (Nat.zero_add _) (rowC fileC (l.take pl) (vl.take pl)) (List.nil_append _) (by unfold maxLen; omega) (by omega) (by first | exact HC.out.size | exact HC.out.drew.size) ?_
        intro XA xc w7 ho7 hg7 hat7
        replace HC : Hid (Chg W3 w7 (fun _ => False)) := by
          first
          | exact HC.out.trans ((Chg.grown hg7).mono (fun _ _ h => by cases h)) (fun _ _ h => h)
          | exact HC.out.drew.trans ((Chg.grown hg7).mono (fun _ _ h => by cases h)) (fun _ _ h => h)
        have y1 := HC.out.cell (p := ⟨db, 1, none⟩) (fun h => h) HY1.out
        have HX7 := Lib.hid ho7
        clear ho7 hg7 hat7
        refine hK.out _ _ ?_ (fun hHeld3 => ?_)
        · (try dsimp only)
          all_goals trivial
        clear hK K hHeld2
        (try simp only [Act.put, List.setIfInBounds_toArray, List.set_cons_zero, List.set_cons_succ])
        refine wpAnyH_ready (rs := [15]) (by kernel_rfl) (by simp) ?_
        refine AllReadyH.cons (o := ⟨some 40, _, _, _, _, _⟩) rfl (fun K hK => ?_) AllReadyH.nil
        refine step_append_all (by rfl) _ _ _ (by rfl) W3.heap.size 94 j0 _ 2 40 Tryz.underlying71 HJ.out.1 HJ.out.2.1 HJ.out.2.2.1 HJ.out.2.2.2 rfl (by omega) (.slice XA pl xc) pl (rowC fileC (l.take pl) (vl.take pl)) (by rfl) (by first | exact HX7.out | exact HX7.out.drew) _ _ _ (rowC fileC (l.drop (pl + 1)) (vl.drop (pl + 1))) (by rfl) (by rw [HV.out.2.2]) (by first | exact HVN.out _ HC.out | exact HVN.out _ HC.out.drew) HV.out.2.1 (pl + (l.length - (pl + 1))) rfl (rowC fileC (l.take pl) (vl.take pl) ++ rowC fileC (l.drop (pl + 1)) (vl.drop (pl + 1))) rfl (by unfold maxLen; omega) (by omega) (by first | exact HC.out.size | exact HC.out.drew.size) ?_
        intro YA yc w15 ho15 hg15 hat15
        replace HC : Hid (Chg W3 w15 (fun _ => False)) := by
          obtain ⟨_, _, _, hzb⟩ := owns_formD HX7.out
          first
          | exact HC.out.trans (Chg.grown hg15) (fun k hk h => by have := (hzb k h.symm).1; omega)
          | exact HC.out.drew.trans (Chg.grown hg15) (fun k hk h => by have := (hzb k h.symm).1; omega)
        have hh15 := HC.out.holds (fun h => h) H3.out.1.hold
        have y1 := HC.out.cell (p := ⟨db, 1, none⟩) (fun h => h) HY1.out
        have q2 := hh15.free 1
        have HY15 := Lib.hid (And.intro ho15 hh15)
        clear ho15 hg15 hat15
        refine hK.out _ _ ?_ (fun hHeld4 => ?_)
        · (try dsimp only)
          all_goals trivial
        clear hK K hHeld3
        (try simp only [Act.put, List.setIfInBounds_toArray, List.set_cons_zero, List.set_cons_succ])
        refine wpAnyH_take (i := 16) (oi := ⟨some 41, _, _, _, _, _⟩) (v := ?_) rfl (by kernel_rfl) (by kernel_rfl) (by kernel_rfl) (fun _ _ _ h => h) (Or.inl ⟨by kernel_rfl, ?_⟩) (by assumption) ?_
        rotate_left
        · (intro w hSw; (try dsimp only at hSw); go_simp; (first | done | with_reducible rfl))
        (try simp only [Act.put, List.setIfInBounds_toArray, List.set_cons_zero, List.set_cons_succ])
        refine wpAnyH_take (i := 17) (oi := ⟨some 42, _, _, _, _, _⟩) (v := ?_) rfl (by kernel_rfl) (by kernel_rfl) (by kernel_rfl) (fun _ _ _ h => h) (Or.inl ⟨by kernel_rfl, ?_⟩) (by assumption) ?_
        rotate_left
        · (intro w hSw; (try dsimp only at hSw); go_simp; (first | done | with_reducible rfl))
        (try simp only [Act.put, List.setIfInBounds_toArray, List.set_cons_zero, List.set_cons_succ])
        refine wpAnyH_ready (rs := [18]) (by kernel_rfl) (by simp) ?_
        refine AllReadyH.cons rfl (fun K hK => ?_) AllReadyH.nil
        go_simp
        refine hK.out _ _ ?_ (fun hHeld5 => ?_)
        · (try dsimp only)
          all_goals trivial
        clear hK K hHeld4
        (try simp only [Act.put, List.setIfInBounds_toArray, List.set_cons_zero, List.set_cons_succ])
        refine wpAnyH_done (by kernel_rfl) ?_ _
        go_wp2
        all_goals
          go_end0
          obtain ⟨z1, z2, z3, z4, z5, z6⟩ := HEND.out _ _ _ HC.out HY15.out.1
          first | exact ⟨rfl, z1, z2, z3, z4, z5, z6⟩ | exact ⟨rfl, z1, z2, ⟨z3, z4, z5⟩, z6⟩
end Go.Proofs.YtggnkpblfmjbcaaGreatDoor
