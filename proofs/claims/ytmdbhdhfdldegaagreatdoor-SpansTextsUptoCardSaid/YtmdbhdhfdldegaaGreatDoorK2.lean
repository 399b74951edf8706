/-
  What the chapter's laws share, part 2: plain facts, memory, and walks of functions. Its conditions: those that each theorem names.
-/
import Derived.Deep.QuietTactic
import Derived.ScopeJumps
import Derived.WalkMore
import Derived.StringKeys
import Derived.Test.YtmdbhdhfdldegaaGreatDoorShelf
import Derived.Test.YtmdbhdhfdldegaaGreatDoorK1
set_option linter.unusedSimpArgs false
set_option linter.unusedVariables false
namespace Go.Proofs.YtmdbhdhfdldegaaGreatDoor
open Go.RowKit Go.Bd
theorem addr_addM (g k j : Nat) : (⟨g, k, none⟩ : Addr).add j = ⟨g, k + j, none⟩ := by unfold Addr.add; split <;> simp_all
theorem rowS_text (t : Bs) : ∀ {l : List Sp} {kvs : List Value} {p : Nat} {y : Sp}, l[p]? = some y → kvs.length = l.length → rowCells (l.set p { y with text := t }) kvs = (rowCells l kvs).set (p * 5 + 1) (strV t)
  | [], _, _, _, h, _ => by simp at h
  | x :: l, [], _, _, _, h => by simp at h
  | x :: l, kv :: kvs, 0, y, h, _ => by
    simp only [List.getElem?_cons_zero, Option.some.injEq] at h
    subst h
    simp [rowCells, spCells]
  | x :: l, kv :: kvs, p + 1, y, h, hl => by
    have ih := rowS_text t (l := l) (kvs := kvs) (p := p) (y := y) (by simpa using h) (by simpa using hl)
    have e : (p + 1) * 5 + 1 = (p * 5 + 1) + 5 := by omega
    rw [List.set_cons_succ, rowCells, rowCells, ih, e, List.set_append, if_neg (by simp [spCells])]
    congr 2
theorem ba_app (a b : Bs) : (⟨a.toArray⟩ : ByteArray) ++ ⟨b.toArray⟩ = ⟨(a ++ b).toArray⟩ := by
  apply ByteArray.ext
  simp
set_option maxRecDepth 100000 in
set_option maxHeartbeats 2000000 in
theorem rput_any (pb ob n cap : Nat) (s : ByteArray) (fv : Value) (cs : Array Value) (sv : Value) (l : List Sp) (x : Sp) (kv : Value) (w : World) (B : Nat) (F : Nat → Prop) (hp : Holds w pb tR #[.string s, .slice (some ⟨ob, 0, none⟩) (n + 1) cap, fv]) (ho : Holds w ob tG cs)
    (hc : cs[n * 4 + 3]? = some sv) (hn17 : n ≤ 1000) (hncap : n + 1 ≤ cap) (hmax : cap ≤ maxLen) (hsp : SpanRow w B tS F sv l) (hpo : pb ≠ ob) (hbs : sv.ownBlock ≠ some ob) (hps : sv.ownBlock ≠ some pb)
    (hF : ∀ k, F k → k < w.heap.size ∧ k ≠ ob ∧ sv.ownBlock ≠ some k) (hB : B ≤ w.heap.size) (hl : l.length ≤ 1000000) (hx : Forest w F kv x.kids) (hxt : x.kind = 0 → x.text.length ≤ 1000000) (hlt : ∀ y ∈ l, y.kind = 0 → y.text.length ≤ 1000000) :
    Calls Tryz.prog 65 #[.pointer (some ⟨pb, 0, none⟩), .agg #[.int .u8 (x.kind : Int), strV x.text, strV x.sub, strV x.see, kv]] w fun e w' => e = .returned (.tuple #[]) ∧
      ∃ sv', Holds w' ob tG (cs.setIfInBounds (n * 4 + 3) sv') ∧ SpanRow w' B tS F sv' (putQ l x) ∧ Chg w w' (fun k => k = ob ∨ sv.ownBlock = some k) ∧ (∀ k, sv'.ownBlock = some k → sv.ownBlock = some k ∨ w.heap.size ≤ k) := by
  have hbw := ho.lt
  have hpw := hp.lt
  obtain ⟨Ak, ck, rfl, hck, _⟩ := hx.form
  obtain ⟨As, cs', rfl, hcs'⟩ := hsp.form
  have hxF := hx
  generalize hkn : x.kids.length = kn at hx hck ⊢
  have HKN := Lib.hid hkn
  clear hkn
  have hc1 := Chg.alloc (Chg.refl w (fun _ => False)) (.cells #[.int .u8 (x.kind : Int), strV x.text, strV x.sub, strV x.see, .slice Ak kn ck] 32)
  have hX := Holds.new w 32 #[.int .u8 (x.kind : Int), strV x.text, strV x.sub, strV x.see, .slice Ak kn ck]
  unfold strV at hc1 hX ⊢
  obtain ⟨n0, hn0⟩ : ∃ n0, w.heap.size = n0 := ⟨_, rfl⟩
  have hbn : ob < n0 := by omega
  have hsl : ∀ k, (Value.slice As l.length cs').ownBlock = some k → k < n0 := fun k hk => by have := (hsp.lt k hk).2; omega
  have hBn : B ≤ n0 := by omega
  obtain ⟨W0, hW0⟩ : ∃ W0, w.alloc (.cells #[.int .u8 (x.kind : Int), .string ⟨x.text.toArray⟩, .string ⟨x.sub.toArray⟩, .string ⟨x.see.toArray⟩, .slice Ak kn ck] 32) = W0 := ⟨_, rfl⟩
  have hsz0 : W0.heap.size = n0 + 1 := by rw [← hW0, ← hn0]; simp
  rw [hW0] at hc1 hX
  rw [hn0] at hX
  have hp0 := hc1.holds (fun h => h) hp
  have ho0 := hc1.holds (fun h => h) ho
  have p1 := hp0.cell 1
  have q1 := (ho0.cell (n * 4 + 3)).trans hc
  have x0 := hX.cell 0
  have x1 := hX.cell 1
  simp at p1 x0 x1
  have hi0 : (0 : Int) ≤ (n : Int) := by omega
  have hi1 : (n : Int) < (n : Int) + 1 := by omega
  by_cases hA : x.kind = 0 ∧ x.text = []
  · have hk0 : ((x.kind : Int) == 0) = true := by simp [hA.1]
    have ht0 : x.text.isEmpty = true := by rw [hA.2]; rfl
    have hpl : putQ l x = l := by unfold putQ; rw [if_pos hA]
    rw [hpl]
    clear hpl hA
    go_enter Tryz.func65, Tryz.ntmps65
    go_wp2
    (try rw [hW0])
    (try rw [hn0])
    have HW0 := Lib.hid (And.intro hW0 hn0)
    clear hW0 hn0
    go_quiet (fail)
    go_wp2
    all_goals
      (try simp only [Exit.inBlock, Exit.then])
      refine bodyPost_ret (results_none rfl _ _ _) rfl ?_
      have hcq := hc1.drewN nq
      exact ⟨rfl, _, by rw [set_same hc]; exact hcq.holds (fun h => h) ho, hsp.chg hcq (fun _ h => h) (fun _ _ h => h) (fun _ _ h => h), hcq.mono (fun _ _ h => h.elim), fun k hk => .inl hk⟩
  by_cases hk : x.kind = 0
  rotate_left
  · have hk0 : ((x.kind : Int) == 0) = false := by simp; omega
    have hadd : putQ l x = l ++ [x] := by
      unfold putQ
      rw [if_neg hA]
      split
      · rw [if_neg (fun h => hk h.1)]
      · rfl
    obtain ⟨m, hm⟩ : ∃ m, l.length = m := ⟨_, rfl⟩
    have hsp0 := hsp
    rw [hm] at hsp0 hc hbs hps hF hl hcs' hsl ⊢
    have HM := Lib.hid hm
    clear hm hA hk hsp hxt
    go_enter Tryz.func65, Tryz.ntmps65
    go_wp2
    (try rw [hW0])
    (try rw [hn0])
    have HW0 := Lib.hid (And.intro hW0 hn0)
    clear hW0 hn0
    go_quiet (fail)
    obtain ⟨W1, hW1⟩ : ∃ W1, W0.drewN nq = W1 := ⟨_, rfl⟩
    rw [hW1]
    have hcq : Chg w W1 (fun _ => False) := hW1 ▸ hc1.drewN nq
    have hsq : W1.heap.size = n0 + 1 := by rw [← hW1]; exact hsz0
    have hX1 : Holds W1 n0 32 #[.int .u8 (x.kind : Int), .string ⟨x.text.toArray⟩, .string ⟨x.sub.toArray⟩, .string ⟨x.see.toArray⟩, .slice Ak kn ck] := hW1 ▸ hX
    have HCQ := Lib.hid hcq
    have ho1 := hcq.holds (fun h => h) ho
    have q1 := (ho1.cell (n * 4 + 3)).trans hc
    have x0 := hX1.cell 0
    have x1 := hX1.cell 1
    simp at x0 x1
    have HSQ := Lib.hid hsq
    have hsg : n0 < W1.heap.size := by omega
    clear hW1 hc1 hX p1 hp0 ho0 hp hsz0 hsq
    have hsp1 := hsp0.chg hcq (fun _ h => h) (fun _ _ h => h) (fun _ _ h => h)
    clear hsp0
    obtain ⟨kvs, hkl, hso, hkf⟩ := hsp1
    have hkx1 : Forest W1 F (.slice Ak kn ck) x.kids := HKN.out ▸ hxF.chg hcq (fun _ h => h) (fun _ _ h => h)
    rw [HM.out] at hso
    have hrl := rowCells_length hkl
    rw [HM.out] at hrl
    have hrc : ∀ i, i < 5 → (rowCells l kvs ++ [.int .u8 0, .string ⟨#[]⟩, .string ⟨#[]⟩, .string ⟨#[]⟩, .slice none 0 0])[m * 5 + i]? = ([.int .u8 0, .string ⟨#[]⟩, .string ⟨#[]⟩, .string ⟨#[]⟩, .slice none 0 0] : List Value)[i]? := fun i _ => by
      rw [List.getElem?_append_right (by omega)]
      congr 1; omega
    have hrc0 : Hid ((rowCells l kvs ++ [.int .u8 0, .string ⟨#[]⟩, .string ⟨#[]⟩, .string ⟨#[]⟩, .slice none 0 0])[m * 5]? = some (.int .u8 0)) := hrc 0 (by omega)
    have hrc1 : Hid ((rowCells l kvs ++ [.int .u8 0, .string ⟨#[]⟩, .string ⟨#[]⟩, .string ⟨#[]⟩, .slice none 0 0])[m * 5 + 1]? = some (.string ⟨#[]⟩)) := hrc 1 (by omega)
    have hrc2 : Hid ((rowCells l kvs ++ [.int .u8 0, .string ⟨#[]⟩, .string ⟨#[]⟩, .string ⟨#[]⟩, .slice none 0 0])[m * 5 + 2]? = some (.string ⟨#[]⟩)) := hrc 2 (by omega)
    have hrc3 : Hid ((rowCells l kvs ++ [.int .u8 0, .string ⟨#[]⟩, .string ⟨#[]⟩, .string ⟨#[]⟩, .slice none 0 0])[m * 5 + 3]? = some (.string ⟨#[]⟩)) := hrc 3 (by omega)
    have hrc4 : Hid ((rowCells l kvs ++ [.int .u8 0, .string ⟨#[]⟩, .string ⟨#[]⟩, .string ⟨#[]⟩, .slice none 0 0])[m * 5 + 4]? = some (.slice none 0 0)) := hrc 4 (by omega)
    have HKF := Lib.hid hkf
    have HRL := Lib.hid hrl
    have HKL := Lib.hid hkl
    have HHX := Lib.hid hX1
    have HKX := Lib.hid hkx1
    have HCS := Lib.hid hc
    have HFF := Lib.hid hF
    have HADD := Lib.hid hadd
    obtain ⟨i0, hi0', hz0, hz1, hz2⟩ := info_parts span_info
    have hxb : n0 ≠ ob := by omega
    have hxs1 : (Value.slice As m cs').ownBlock ≠ some n0 := fun h => by have := hsl _ h; omega
    have hbw1 := ho1.lt
    have hj0 : (0 : Int) ≤ (m : Int) := by omega
    have hj1 : (m : Int) < (m : Int) + 1 := by omega
    clear hrc hkf hrl hkl hc hF hadd hlt hx hkx1 hi0 hi1 hcq
    go_wp2
    refine wp_region_held_drew (S := (fun w' => w'.cell? ⟨n0, 0, none⟩ = some (.int .u8 (x.kind : Int)) ∧ w'.cell? ⟨n0, 1, none⟩ = some (.string ⟨x.text.toArray⟩) ∧ w'.cell? ⟨n0, 2, none⟩ = some (.string ⟨x.sub.toArray⟩) ∧ w'.cell? ⟨n0, 3, none⟩ = some (.string ⟨x.see.toArray⟩) ∧ w'.cell? ⟨n0, 4, none⟩ = some (.slice Ak kn ck))) (by kernel_rfl) ?_ (fun hHeld0 => ?_)
    · (try dsimp only)
      refine cells5 (t := 32) ?_
      repeat (first | with_reducible exact hX1 | with_reducible exact hx2 | with_reducible refine Holds.far ?_ hxgg _ | with_reducible refine Holds.far ?_ hxb _ | with_reducible refine Holds.alloc ?_ _ | with_reducible refine Holds.drew ?_)
    refine wpAnyH_take (i := 0) (oi := ⟨some 66, _, _, _, _, _⟩) (v := ?_) rfl (by kernel_rfl) (by kernel_rfl) (by kernel_rfl) (fun _ _ _ h => h) (Or.inl ⟨by kernel_rfl, ?_⟩) (by assumption) ?_
    rotate_left
    · (intro w hSw; (try dsimp only at hSw); go_simp; (first | done | with_reducible rfl))
    (try simp only [Act.put, List.setIfInBounds_toArray, List.set_cons_zero, List.set_cons_succ])
    refine wpAnyH_take (i := 1) (oi := ⟨some 67, _, _, _, _, _⟩) (v := ?_) rfl (by kernel_rfl) (by kernel_rfl) (by kernel_rfl) (fun _ _ _ h => h) (Or.inl ⟨by kernel_rfl, ?_⟩) (by assumption) ?_
    rotate_left
    · (intro w hSw; (try dsimp only at hSw); go_simp; (first | done | with_reducible rfl))
    (try simp only [Act.put, List.setIfInBounds_toArray, List.set_cons_zero, List.set_cons_succ])
    refine wpAnyH_take (i := 3) (oi := ⟨some 69, _, _, _, _, _⟩) (v := ?_) rfl (by kernel_rfl) (by kernel_rfl) (by kernel_rfl) (fun _ _ _ h => h) (Or.inl ⟨by kernel_rfl, ?_⟩) (by assumption) ?_
    rotate_left
    · (intro w hSw; (try dsimp only at hSw); go_simp; (first | done | with_reducible rfl))
    (try simp only [Act.put, List.setIfInBounds_toArray, List.set_cons_zero, List.set_cons_succ])
    refine wpAnyH_ready (rs := [2, 5]) (by kernel_rfl) (by simp) ?_
    refine AllReadyH.cons (o := ⟨some 68, _, _, _, _, _⟩) rfl (fun K hK => ?_) ?_
    · skip
      go_simp
      refine hK.out _ _ ?_ (fun hHeld1 => ?_)
      · (try dsimp only)
        refine cells5 (t := 32) ?_
        repeat (first | with_reducible exact hX1 | with_reducible exact hx2 | with_reducible refine Holds.far ?_ hxgg _ | with_reducible refine Holds.far ?_ hxb _ | with_reducible refine Holds.alloc ?_ _ | with_reducible refine Holds.drew ?_)
      clear hK K hHeld0
      (try simp only [Act.put, List.setIfInBounds_toArray, List.set_cons_zero, List.set_cons_succ])
      refine wpAnyH_take (i := 4) (oi := ⟨some 70, _, _, _, _, _⟩) (v := ?_) rfl (by kernel_rfl) (by kernel_rfl) (by kernel_rfl) (fun _ _ _ h => h) (Or.inl ⟨by kernel_rfl, ?_⟩) (by assumption) ?_
      rotate_left
      · (intro w hSw; (try dsimp only at hSw); go_simp; (first | done | with_reducible rfl))
      (try simp only [Act.put, List.setIfInBounds_toArray, List.set_cons_zero, List.set_cons_succ])
      refine wpAnyH_ready (rs := [5]) (by kernel_rfl) (by simp) ?_
      refine AllReadyH.cons (o := ⟨some 71, _, _, _, _, _⟩) rfl (fun K hK => ?_) AllReadyH.nil
      go_simp
      refine hK.out _ _ ?_ (fun hHeld2 => ?_)
      · (try dsimp only)
        refine cells5 (t := 32) ?_
        repeat (first | with_reducible exact hX1 | with_reducible exact hx2 | with_reducible refine Holds.far ?_ hxgg _ | with_reducible refine Holds.far ?_ hxb _ | with_reducible refine Holds.alloc ?_ _ | with_reducible refine Holds.drew ?_)
      clear hK K hHeld1
      (try simp only [Act.put, List.setIfInBounds_toArray, List.set_cons_zero, List.set_cons_succ])
      refine wpAnyH_ready (rs := [6]) (by kernel_rfl) (by simp) ?_
      refine AllReadyH.cons (o := ⟨some 72, _, _, _, _, _⟩) rfl (fun K hK => ?_) AllReadyH.nil
      refine step_append_lies _ (by rfl) _ _ _ (by rfl) B 32 i0 _ 5 80 Tryz.underlying22 hi0' hz0 hz1 hz2 rfl (by omega) (.slice As m cs') m (rowCells l kvs) (by rfl) ((hso.alloc _).drew)
        ⟨W1.heap.size, 0, none⟩ 1 1 [.int .u8 0, .string ⟨#[]⟩, .string ⟨#[]⟩, .string ⟨#[]⟩, .slice none 0 0] (by rfl) (by rfl) (World.news_of_block (cs := #[.int .u8 0, .string ⟨#[]⟩, .string ⟨#[]⟩, .string ⟨#[]⟩, .slice none 0 0]) (t := 32) (fr := (0, 0)) (heap_alloc_new W1 _)) (by simp [Value.oneCell'])
        (by omega) (by unfold maxLen; omega) (by omega) (by simp; omega) (W1.heap.size + 1) (by simp) ?_
      intro gg cap1 w2 hown1 hgrow hat hlt2
      have hggb : gg ≠ ob := fun e => by
        rcases hat with h | h
        · exact hbs (h.trans (by rw [e]))
        · omega
      have hbgg : ob ≠ gg := fun e => hggb e.symm
      have hxgg : n0 ≠ gg := fun e => by
        rcases hat with h | h
        · exact hxs1 (h.trans (by rw [e]))
        · omega
      have hch1 := Chg.grown hgrow
      have hh1 := hch1.holds (fun h => hbs h.symm) ((ho1.alloc _).drew)
      have hx2 := hch1.holds (fun h => hxs1 h.symm) ((hX1.alloc _).drew)
      have k1 := (hh1.cell (n * 4 + 3)).trans HCS.out
      have k2 := hh1.free (n * 4 + 3)
      have z0 := hown1.cellAt (m * 5) (by omega)
      have z1 := hown1.cellAt (m * 5 + 1) (by omega)
      have z2 := hown1.cellAt (m * 5 + 2) (by omega)
      have z3 := hown1.cellAt (m * 5 + 3) (by omega)
      have z4 := hown1.cellAt (m * 5 + 4) (by omega)
      have y0 := hown1.frozenAt (m * 5)
      have y1 := hown1.frozenAt (m * 5 + 1)
      have y2 := hown1.frozenAt (m * 5 + 2)
      have y3 := hown1.frozenAt (m * 5 + 3)
      have y4 := hown1.frozenAt (m * 5 + 4)
      rw [hrc0.out] at z0
      rw [hrc1.out] at z1
      rw [hrc2.out] at z2
      rw [hrc3.out] at z3
      rw [hrc4.out] at z4
      have HOWN := Lib.hid hown1
      have HAT := Lib.hid hat
      have hggo : (Value.slice (some ⟨gg, 0, none⟩) (m + 1) cap1).ownBlock ≠ some ob := fun e => hggb (by simpa [Value.ownBlock] using e)
      have HC0 : Hid (Chg W1 w2 (fun k => k = ob ∨ (Value.slice As m cs').ownBlock = some k)) := (((Chg.refl W1 _).alloc _).drew).trans hch1 (fun k _ h => Or.inr h.symm)
      have HTG : Hid (∀ k, k < W1.heap.size → k = gg → (k = ob ∨ (Value.slice As m cs').ownBlock = some k)) := fun k hk e => by
        subst e
        rcases hat with h | h
        · exact Or.inr h
        · omega
      have HTB : Hid (∀ k, k < W1.heap.size → k = ob → (k = ob ∨ (Value.slice As m cs').ownBlock = some k)) := fun k _ e => Or.inl e
      clear hown1 hat hch1 hgrow
      refine hK.out _ _ ?_ (fun hHeld3 => ?_)
      · (try dsimp only)
        refine cells5 (t := 32) ?_
        repeat (first | with_reducible exact hX1 | with_reducible exact hx2 | with_reducible refine Holds.far ?_ hxgg _ | with_reducible refine Holds.far ?_ hxb _ | with_reducible refine Holds.alloc ?_ _ | with_reducible refine Holds.drew ?_)
      clear hK K hHeld2
      (try simp only [Act.put, List.setIfInBounds_toArray, List.set_cons_zero, List.set_cons_succ])
      refine wpAnyH_take (i := 7) (oi := ⟨some 73, _, _, _, _, _⟩) (v := ?_) rfl (by kernel_rfl) (by kernel_rfl) (by kernel_rfl) (fun _ _ _ h => h) (Or.inl ⟨by kernel_rfl, ?_⟩) (by assumption) ?_
      rotate_left
      · (intro w hSw; (try dsimp only at hSw); go_simp; (first | done | with_reducible rfl))
      (try simp only [Act.put, List.setIfInBounds_toArray, List.set_cons_zero, List.set_cons_succ])
      refine wpAnyH_take (i := 9) (oi := ⟨some 74, _, _, _, _, _⟩) (v := ?_) rfl (by kernel_rfl) (by kernel_rfl) (by kernel_rfl) (fun _ _ _ h => h) (Or.inl ⟨by kernel_rfl, ?_⟩) (by assumption) ?_
      rotate_left
      · (intro w hSw; (try dsimp only at hSw); go_simp; (first | done | with_reducible rfl))
      (try simp only [Act.put, List.setIfInBounds_toArray, List.set_cons_zero, List.set_cons_succ])
      refine wpAnyH_ready (rs := [8, 10]) (by kernel_rfl) (by simp) ?_
      refine AllReadyH.cons rfl (fun K hK => ?_) ?_
      · skip
        go_simp
        refine hK.out _ _ ?_ (fun hHeld4 => ?_)
        · (try dsimp only)
          refine cells5 (t := 32) ?_
          repeat (first | with_reducible exact hX1 | with_reducible exact hx2 | with_reducible refine Holds.far ?_ hxgg _ | with_reducible refine Holds.far ?_ hxb _ | with_reducible refine Holds.alloc ?_ _ | with_reducible refine Holds.drew ?_)
        clear hK K hHeld3
        (try simp only [Act.put, List.setIfInBounds_toArray, List.set_cons_zero, List.set_cons_succ])
        refine wpAnyH_ready (rs := [10]) (by kernel_rfl) (by simp) ?_
        refine AllReadyH.cons rfl (fun K hK => ?_) AllReadyH.nil
        go_simp
        refine hK.out _ _ ?_ (fun hHeld5 => ?_)
        · (try dsimp only)
          refine cells5 (t := 32) ?_
          repeat (first | with_reducible exact hX1 | with_reducible exact hx2 | with_reducible refine Holds.far ?_ hxgg _ | with_reducible refine Holds.far ?_ hxb _ | with_reducible refine Holds.alloc ?_ _ | with_reducible refine Holds.drew ?_)
        clear hK K hHeld4
        (try simp only [Act.put, List.setIfInBounds_toArray, List.set_cons_zero, List.set_cons_succ])
        refine wpAnyH_done (by kernel_rfl) ?_ _
        clear hHeld5
        go_wp2
        go_end0
        refine ⟨rfl, .slice (some ⟨gg, 0, none⟩) (m + 1) cap1, ?_, ?_, ?_, ?_⟩
        · repeat (first | with_reducible exact hh1 | with_reducible refine Holds.set ?_ _ _ | with_reducible refine Holds.far ?_ hbgg _)
        · rw [HADD.out]
          refine added_row (z0 := .int .u8 0) (z1 := .string ⟨#[]⟩) (z2 := .string ⟨#[]⟩) (z3 := .string ⟨#[]⟩) (z4 := .slice none 0 0) (kv := .slice Ak kn ck) (S := fun k => k = ob ∨ (Value.slice As m cs').ownBlock = some k) HKL.out (by rw [HM.out]; exact HRL.out) HKF.out HKX.out ?_ (fun k hk h => by
            have := HFF.out k hk
            rcases h with h | h
            · exact this.2.1 h
            · exact this.2.2 h) ?_
          · repeat (first | with_reducible exact HC0.out | with_reducible refine Chg.step ?_ HTG.out | with_reducible refine Chg.step ?_ HTB.out)
          · rw [HM.out]
            repeat (first | with_reducible refine (World.ownsRow.stored ?_ _ _).1 | with_reducible refine ownsRow_setCell_other ?_ hggo _)
            exact HOWN.out
        · refine Chg.trans (S := fun k => k = ob ∨ (Value.slice As m cs').ownBlock = some k) (T := fun k => k = ob ∨ (Value.slice As m cs').ownBlock = some k) (HCQ.out.mono (fun _ _ h => h.elim)) ?_ (fun k hk h => h)
          repeat (first | with_reducible exact HC0.out | with_reducible refine Chg.step ?_ HTG.out | with_reducible refine Chg.step ?_ HTB.out)
        · intro k hk
          simp only [Value.ownBlock, Option.some.injEq] at hk
          subst hk
          rcases HAT.out with h | h
          · exact .inl h
          · exact .inr (by have := HW0.out.2; omega)
      refine AllReadyH.cons rfl (fun K hK => ?_) AllReadyH.nil
      go_simp
      refine hK.out _ _ ?_ (fun hHeld4 => ?_)
      · (try dsimp only)
        refine cells5 (t := 32) ?_
        repeat (first | with_reducible exact hX1 | with_reducible exact hx2 | with_reducible refine Holds.far ?_ hxgg _ | with_reducible refine Holds.far ?_ hxb _ | with_reducible refine Holds.alloc ?_ _ | with_reducible refine Holds.drew ?_)
      clear hK K hHeld3
      (try simp only [Act.put, List.setIfInBounds_toArray, List.set_cons_zero, List.set_cons_succ])
      refine wpAnyH_ready (rs := [8]) (by kernel_rfl) (by simp) ?_
      refine AllReadyH.cons rfl (fun K hK => ?_) AllReadyH.nil
      go_simp
      refine hK.out _ _ ?_ (fun hHeld5 => ?_)
      · (try dsimp only)
        refine cells5 (t := 32) ?_
        repeat (first | with_reducible exact hX1 | with_reducible exact hx2 | with_reducible refine Holds.far ?_ hxgg _ | with_reducible refine Holds.far ?_ hxb _ | with_reducible refine Holds.alloc ?_ _ | with_reducible refine Holds.drew ?_)
      clear hK K hHeld4
      (try simp only [Act.put, List.setIfInBounds_toArray, List.set_cons_zero, List.set_cons_succ])
      refine wpAnyH_done (by kernel_rfl) ?_ _
      clear hHeld5
      go_wp2
      go_end0
      refine ⟨rfl, .slice (some ⟨gg, 0, none⟩) (m + 1) cap1, ?_, ?_, ?_, ?_⟩
      · repeat (first | with_reducible exact hh1 | with_reducible refine Holds.set ?_ _ _ | with_reducible refine Holds.far ?_ hbgg _)
      · rw [HADD.out]
        refine added_row (z0 := .int .u8 0) (z1 := .string ⟨#[]⟩) (z2 := .string ⟨#[]⟩) (z3 := .string ⟨#[]⟩) (z4 := .slice none 0 0) (kv := .slice Ak kn ck) (S := fun k => k = ob ∨ (Value.slice As m cs').ownBlock = some k) HKL.out (by rw [HM.out]; exact HRL.out) HKF.out HKX.out ?_ (fun k hk h => by
          have := HFF.out k hk
          rcases h with h | h
          · exact this.2.1 h
          · exact this.2.2 h) ?_
        · repeat (first | with_reducible exact HC0.out | with_reducible refine Chg.step ?_ HTG.out | with_reducible refine Chg.step ?_ HTB.out)
        · rw [HM.out]
          repeat (first | with_reducible refine (World.ownsRow.stored ?_ _ _).1 | with_reducible refine ownsRow_setCell_other ?_ hggo _)
          exact HOWN.out
      · refine Chg.trans (S := fun k => k = ob ∨ (Value.slice As m cs').ownBlock = some k) (T := fun k => k = ob ∨ (Value.slice As m cs').ownBlock = some k) (HCQ.out.mono (fun _ _ h => h.elim)) ?_ (fun k hk h => h)
        repeat (first | with_reducible exact HC0.out | with_reducible refine Chg.step ?_ HTG.out | with_reducible refine Chg.step ?_ HTB.out)
      · intro k hk
        simp only [Value.ownBlock, Option.some.injEq] at hk
        subst hk
        rcases HAT.out with h | h
        · exact .inl h
        · exact .inr (by have := HW0.out.2; omega)
    refine AllReadyH.cons (o := ⟨some 71, _, _, _, _, _⟩) rfl (fun K hK => ?_) AllReadyH.nil
    go_simp
    refine hK.out _ _ ?_ (fun hHeld1 => ?_)
    · (try dsimp only)
      refine cells5 (t := 32) ?_
      repeat (first | with_reducible exact hX1 | with_reducible exact hx2 | with_reducible refine Holds.far ?_ hxgg _ | with_reducible refine Holds.far ?_ hxb _ | with_reducible refine Holds.alloc ?_ _ | with_reducible refine Holds.drew ?_)
    clear hK K hHeld0
    (try simp only [Act.put, List.setIfInBounds_toArray, List.set_cons_zero, List.set_cons_succ])
    refine wpAnyH_ready (rs := [2]) (by kernel_rfl) (by simp) ?_
    refine AllReadyH.cons (o := ⟨some 68, _, _, _, _, _⟩) rfl (fun K hK => ?_) AllReadyH.nil
    go_simp
    refine hK.out _ _ ?_ (fun hHeld2 => ?_)
    · (try dsimp only)
      refine cells5 (t := 32) ?_
      repeat (first | with_reducible exact hX1 | with_reducible exact hx2 | with_reducible refine Holds.far ?_ hxgg _ | with_reducible refine Holds.far ?_ hxb _ | with_reducible refine Holds.alloc ?_ _ | with_reducible refine Holds.drew ?_)
    clear hK K hHeld1
    (try simp only [Act.put, List.setIfInBounds_toArray, List.set_cons_zero, List.set_cons_succ])
    refine wpAnyH_take (i := 4) (oi := ⟨some 70, _, _, _, _, _⟩) (v := ?_) rfl (by kernel_rfl) (by kernel_rfl) (by kernel_rfl) (fun _ _ _ h => h) (Or.inl ⟨by kernel_rfl, ?_⟩) (by assumption) ?_
    rotate_left
    · (intro w hSw; (try dsimp only at hSw); go_simp; (first | done | with_reducible rfl))
    (try simp only [Act.put, List.setIfInBounds_toArray, List.set_cons_zero, List.set_cons_succ])
    refine wpAnyH_ready (rs := [6]) (by kernel_rfl) (by simp) ?_
    refine AllReadyH.cons (o := ⟨some 72, _, _, _, _, _⟩) rfl (fun K hK => ?_) AllReadyH.nil
    refine step_append_lies _ (by rfl) _ _ _ (by rfl) B 32 i0 _ 5 80 Tryz.underlying22 hi0' hz0 hz1 hz2 rfl (by omega) (.slice As m cs') m (rowCells l kvs) (by rfl) ((hso.alloc _).drew)
      ⟨W1.heap.size, 0, none⟩ 1 1 [.int .u8 0, .string ⟨#[]⟩, .string ⟨#[]⟩, .string ⟨#[]⟩, .slice none 0 0] (by rfl) (by rfl) (World.news_of_block (cs := #[.int .u8 0, .string ⟨#[]⟩, .string ⟨#[]⟩, .string ⟨#[]⟩, .slice none 0 0]) (t := 32) (fr := (0, 0)) (heap_alloc_new W1 _)) (by simp [Value.oneCell'])
      (by omega) (by unfold maxLen; omega) (by omega) (by simp; omega) (W1.heap.size + 1) (by simp) ?_
    intro gg cap1 w2 hown1 hgrow hat hlt2
    have hggb : gg ≠ ob := fun e => by
      rcases hat with h | h
      · exact hbs (h.trans (by rw [e]))
      · omega
    have hbgg : ob ≠ gg := fun e => hggb e.symm
    have hxgg : n0 ≠ gg := fun e => by
      rcases hat with h | h
      · exact hxs1 (h.trans (by rw [e]))
      · omega
    have hch1 := Chg.grown hgrow
    have hh1 := hch1.holds (fun h => hbs h.symm) ((ho1.alloc _).drew)
    have hx2 := hch1.holds (fun h => hxs1 h.symm) ((hX1.alloc _).drew)
    have k1 := (hh1.cell (n * 4 + 3)).trans HCS.out
    have k2 := hh1.free (n * 4 + 3)
    have z0 := hown1.cellAt (m * 5) (by omega)
    have z1 := hown1.cellAt (m * 5 + 1) (by omega)
    have z2 := hown1.cellAt (m * 5 + 2) (by omega)
    have z3 := hown1.cellAt (m * 5 + 3) (by omega)
    have z4 := hown1.cellAt (m * 5 + 4) (by omega)
    have y0 := hown1.frozenAt (m * 5)
    have y1 := hown1.frozenAt (m * 5 + 1)
    have y2 := hown1.frozenAt (m * 5 + 2)
    have y3 := hown1.frozenAt (m * 5 + 3)
    have y4 := hown1.frozenAt (m * 5 + 4)
    rw [hrc0.out] at z0
    rw [hrc1.out] at z1
    rw [hrc2.out] at z2
    rw [hrc3.out] at z3
    rw [hrc4.out] at z4
    have HOWN := Lib.hid hown1
    have HAT := Lib.hid hat
    have hggo : (Value.slice (some ⟨gg, 0, none⟩) (m + 1) cap1).ownBlock ≠ some ob := fun e => hggb (by simpa [Value.ownBlock] using e)
    have HC0 : Hid (Chg W1 w2 (fun k => k = ob ∨ (Value.slice As m cs').ownBlock = some k)) := (((Chg.refl W1 _).alloc _).drew).trans hch1 (fun k _ h => Or.inr h.symm)
    have HTG : Hid (∀ k, k < W1.heap.size → k = gg → (k = ob ∨ (Value.slice As m cs').ownBlock = some k)) := fun k hk e => by
      subst e
      rcases hat with h | h
      · exact Or.inr h
      · omega
    have HTB : Hid (∀ k, k < W1.heap.size → k = ob → (k = ob ∨ (Value.slice As m cs').ownBlock = some k)) := fun k _ e => Or.inl e
    clear hown1 hat hch1 hgrow
    refine hK.out _ _ ?_ (fun hHeld3 => ?_)
    · (try dsimp only)
      refine cells5 (t := 32) ?_
      repeat (first | with_reducible exact hX1 | with_reducible exact hx2 | with_reducible refine Holds.far ?_ hxgg _ | with_reducible refine Holds.far ?_ hxb _ | with_reducible refine Holds.alloc ?_ _ | with_reducible refine Holds.drew ?_)
    clear hK K hHeld2
    (try simp only [Act.put, List.setIfInBounds_toArray, List.set_cons_zero, List.set_cons_succ])
    refine wpAnyH_take (i := 7) (oi := ⟨some 73, _, _, _, _, _⟩) (v := ?_) rfl (by kernel_rfl) (by kernel_rfl) (by kernel_rfl) (fun _ _ _ h => h) (Or.inl ⟨by kernel_rfl, ?_⟩) (by assumption) ?_
    rotate_left
    · (intro w hSw; (try dsimp only at hSw); go_simp; (first | done | with_reducible rfl))
    (try simp only [Act.put, List.setIfInBounds_toArray, List.set_cons_zero, List.set_cons_succ])
    refine wpAnyH_take (i := 9) (oi := ⟨some 74, _, _, _, _, _⟩) (v := ?_) rfl (by kernel_rfl) (by kernel_rfl) (by kernel_rfl) (fun _ _ _ h => h) (Or.inl ⟨by kernel_rfl, ?_⟩) (by assumption) ?_
    rotate_left
    · (intro w hSw; (try dsimp only at hSw); go_simp; (first | done | with_reducible rfl))
    (try simp only [Act.put, List.setIfInBounds_toArray, List.set_cons_zero, List.set_cons_succ])
    refine wpAnyH_ready (rs := [8, 10]) (by kernel_rfl) (by simp) ?_
    refine AllReadyH.cons rfl (fun K hK => ?_) ?_
    · skip
      go_simp
      refine hK.out _ _ ?_ (fun hHeld4 => ?_)
      · (try dsimp only)
        refine cells5 (t := 32) ?_
        repeat (first | with_reducible exact hX1 | with_reducible exact hx2 | with_reducible refine Holds.far ?_ hxgg _ | with_reducible refine Holds.far ?_ hxb _ | with_reducible refine Holds.alloc ?_ _ | with_reducible refine Holds.drew ?_)
      clear hK K hHeld3
      (try simp only [Act.put, List.setIfInBounds_toArray, List.set_cons_zero, List.set_cons_succ])
      refine wpAnyH_ready (rs := [10]) (by kernel_rfl) (by simp) ?_
      refine AllReadyH.cons rfl (fun K hK => ?_) AllReadyH.nil
      go_simp
      refine hK.out _ _ ?_ (fun hHeld5 => ?_)
      · (try dsimp only)
        refine cells5 (t := 32) ?_
        repeat (first | with_reducible exact hX1 | with_reducible exact hx2 | with_reducible refine Holds.far ?_ hxgg _ | with_reducible refine Holds.far ?_ hxb _ | with_reducible refine Holds.alloc ?_ _ | with_reducible refine Holds.drew ?_)
      clear hK K hHeld4
      (try simp only [Act.put, List.setIfInBounds_toArray, List.set_cons_zero, List.set_cons_succ])
      refine wpAnyH_done (by kernel_rfl) ?_ _
      clear hHeld5
      go_wp2
      go_end0
      refine ⟨rfl, .slice (some ⟨gg, 0, none⟩) (m + 1) cap1, ?_, ?_, ?_, ?_⟩
      · repeat (first | with_reducible exact hh1 | with_reducible refine Holds.set ?_ _ _ | with_reducible refine Holds.far ?_ hbgg _)
      · rw [HADD.out]
        refine added_row (z0 := .int .u8 0) (z1 := .string ⟨#[]⟩) (z2 := .string ⟨#[]⟩) (z3 := .string ⟨#[]⟩) (z4 := .slice none 0 0) (kv := .slice Ak kn ck) (S := fun k => k = ob ∨ (Value.slice As m cs').ownBlock = some k) HKL.out (by rw [HM.out]; exact HRL.out) HKF.out HKX.out ?_ (fun k hk h => by
          have := HFF.out k hk
          rcases h with h | h
          · exact this.2.1 h
          · exact this.2.2 h) ?_
        · repeat (first | with_reducible exact HC0.out | with_reducible refine Chg.step ?_ HTG.out | with_reducible refine Chg.step ?_ HTB.out)
        · rw [HM.out]
          repeat (first | with_reducible refine (World.ownsRow.stored ?_ _ _).1 | with_reducible refine ownsRow_setCell_other ?_ hggo _)
          exact HOWN.out
      · refine Chg.trans (S := fun k => k = ob ∨ (Value.slice As m cs').ownBlock = some k) (T := fun k => k = ob ∨ (Value.slice As m cs').ownBlock = some k) (HCQ.out.mono (fun _ _ h => h.elim)) ?_ (fun k hk h => h)
        repeat (first | with_reducible exact HC0.out | with_reducible refine Chg.step ?_ HTG.out | with_reducible refine Chg.step ?_ HTB.out)
      · intro k hk
        simp only [Value.ownBlock, Option.some.injEq] at hk
        subst hk
        rcases HAT.out with h | h
        · exact .inl h
        · exact .inr (by have := HW0.out.2; omega)
    refine AllReadyH.cons rfl (fun K hK => ?_) AllReadyH.nil
    go_simp
    refine hK.out _ _ ?_ (fun hHeld4 => ?_)
    · (try dsimp only)
      refine cells5 (t := 32) ?_
      repeat (first | with_reducible exact hX1 | with_reducible exact hx2 | with_reducible refine Holds.far ?_ hxgg _ | with_reducible refine Holds.far ?_ hxb _ | with_reducible refine Holds.alloc ?_ _ | with_reducible refine Holds.drew ?_)
    clear hK K hHeld3
    (try simp only [Act.put, List.setIfInBounds_toArray, List.set_cons_zero, List.set_cons_succ])
    refine wpAnyH_ready (rs := [8]) (by kernel_rfl) (by simp) ?_
    refine AllReadyH.cons rfl (fun K hK => ?_) AllReadyH.nil
    go_simp
    refine hK.out _ _ ?_ (fun hHeld5 => ?_)
    · (try dsimp only)
      refine cells5 (t := 32) ?_
      repeat (first | with_reducible exact hX1 | with_reducible exact hx2 | with_reducible refine Holds.far ?_ hxgg _ | with_reducible refine Holds.far ?_ hxb _ | with_reducible refine Holds.alloc ?_ _ | with_reducible refine Holds.drew ?_)
    clear hK K hHeld4
    (try simp only [Act.put, List.setIfInBounds_toArray, List.set_cons_zero, List.set_cons_succ])
    refine wpAnyH_done (by kernel_rfl) ?_ _
    clear hHeld5
    go_wp2
    go_end0
    refine ⟨rfl, .slice (some ⟨gg, 0, none⟩) (m + 1) cap1, ?_, ?_, ?_, ?_⟩
    · repeat (first | with_reducible exact hh1 | with_reducible refine Holds.set ?_ _ _ | with_reducible refine Holds.far ?_ hbgg _)
    · rw [HADD.out]
      refine added_row (z0 := .int .u8 0) (z1 := .string ⟨#[]⟩) (z2 := .string ⟨#[]⟩) (z3 := .string ⟨#[]⟩) (z4 := .slice none 0 0) (kv := .slice Ak kn ck) (S := fun k => k = ob ∨ (Value.slice As m cs').ownBlock = some k) HKL.out (by rw [HM.out]; exact HRL.out) HKF.out HKX.out ?_ (fun k hk h => by
        have := HFF.out k hk
        rcases h with h | h
        · exact this.2.1 h
        · exact this.2.2 h) ?_
      · repeat (first | with_reducible exact HC0.out | with_reducible refine Chg.step ?_ HTG.out | with_reducible refine Chg.step ?_ HTB.out)
      · rw [HM.out]
        repeat (first | with_reducible refine (World.ownsRow.stored ?_ _ _).1 | with_reducible refine ownsRow_setCell_other ?_ hggo _)
        exact HOWN.out
    · refine Chg.trans (S := fun k => k = ob ∨ (Value.slice As m cs').ownBlock = some k) (T := fun k => k = ob ∨ (Value.slice As m cs').ownBlock = some k) (HCQ.out.mono (fun _ _ h => h.elim)) ?_ (fun k hk h => h)
      repeat (first | with_reducible exact HC0.out | with_reducible refine Chg.step ?_ HTG.out | with_reducible refine Chg.step ?_ HTB.out)
    · intro k hk
      simp only [Value.ownBlock, Option.some.injEq] at hk
      subst hk
      rcases HAT.out with h | h
      · exact .inl h
      · exact .inr (by have := HW0.out.2; omega)
  have hk0 : ((x.kind : Int) == 0) = true := by simp [hk]
  replace hxt := hxt hk
  have ht0 : x.text.isEmpty = false := by
    cases hxt0 : x.text with
    | nil => exact absurd ⟨hk, hxt0⟩ hA
    | cons a b => rfl
  rcases List.eq_nil_or_concat l with hl0 | ⟨l0, y, hl0⟩
  · have hadd : putQ l x = l ++ [x] := by
      unfold putQ
      rw [if_neg hA, hl0]
      rfl
    obtain ⟨m, hm⟩ : ∃ m, l.length = m := ⟨_, rfl⟩
    have hm0 : ¬ 0 < m := by rw [← hm, hl0]; simp
    have hsp0 := hsp
    rw [hm] at hsp0 hc hbs hps hF hl hcs' hsl ⊢
    have HM := Lib.hid hm
    clear hm hA hk hsp hl0
    go_enter Tryz.func65, Tryz.ntmps65
    go_wp2
    (try rw [hW0])
    (try rw [hn0])
    have HW0 := Lib.hid (And.intro hW0 hn0)
    clear hW0 hn0
    go_quiet (fail)
    obtain ⟨W1, hW1⟩ : ∃ W1, W0.drewN nq = W1 := ⟨_, rfl⟩
    rw [hW1]
    have hcq : Chg w W1 (fun _ => False) := hW1 ▸ hc1.drewN nq
    have hsq : W1.heap.size = n0 + 1 := by rw [← hW1]; exact hsz0
    have hX1 : Holds W1 n0 32 #[.int .u8 (x.kind : Int), .string ⟨x.text.toArray⟩, .string ⟨x.sub.toArray⟩, .string ⟨x.see.toArray⟩, .slice Ak kn ck] := hW1 ▸ hX
    have HCQ := Lib.hid hcq
    have ho1 := hcq.holds (fun h => h) ho
    have q1 := (ho1.cell (n * 4 + 3)).trans hc
    have x0 := hX1.cell 0
    have x1 := hX1.cell 1
    simp at x0 x1
    have HSQ := Lib.hid hsq
    have hsg : n0 < W1.heap.size := by omega
    clear hW1 hc1 hX p1 hp0 ho0 hp hsz0 hsq
    have hsp1 := hsp0.chg hcq (fun _ h => h) (fun _ _ h => h) (fun _ _ h => h)
    clear hsp0
    obtain ⟨kvs, hkl, hso, hkf⟩ := hsp1
    have hkx1 : Forest W1 F (.slice Ak kn ck) x.kids := HKN.out ▸ hxF.chg hcq (fun _ h => h) (fun _ _ h => h)
    rw [HM.out] at hso
    have hrl := rowCells_length hkl
    rw [HM.out] at hrl
    have hrc : ∀ i, i < 5 → (rowCells l kvs ++ [.int .u8 0, .string ⟨#[]⟩, .string ⟨#[]⟩, .string ⟨#[]⟩, .slice none 0 0])[m * 5 + i]? = ([.int .u8 0, .string ⟨#[]⟩, .string ⟨#[]⟩, .string ⟨#[]⟩, .slice none 0 0] : List Value)[i]? := fun i _ => by
      rw [List.getElem?_append_right (by omega)]
      congr 1; omega
    have hrc0 : Hid ((rowCells l kvs ++ [.int .u8 0, .string ⟨#[]⟩, .string ⟨#[]⟩, .string ⟨#[]⟩, .slice none 0 0])[m * 5]? = some (.int .u8 0)) := hrc 0 (by omega)
    have hrc1 : Hid ((rowCells l kvs ++ [.int .u8 0, .string ⟨#[]⟩, .string ⟨#[]⟩, .string ⟨#[]⟩, .slice none 0 0])[m * 5 + 1]? = some (.string ⟨#[]⟩)) := hrc 1 (by omega)
    have hrc2 : Hid ((rowCells l kvs ++ [.int .u8 0, .string ⟨#[]⟩, .string ⟨#[]⟩, .string ⟨#[]⟩, .slice none 0 0])[m * 5 + 2]? = some (.string ⟨#[]⟩)) := hrc 2 (by omega)
    have hrc3 : Hid ((rowCells l kvs ++ [.int .u8 0, .string ⟨#[]⟩, .string ⟨#[]⟩, .string ⟨#[]⟩, .slice none 0 0])[m * 5 + 3]? = some (.string ⟨#[]⟩)) := hrc 3 (by omega)
    have hrc4 : Hid ((rowCells l kvs ++ [.int .u8 0, .string ⟨#[]⟩, .string ⟨#[]⟩, .string ⟨#[]⟩, .slice none 0 0])[m * 5 + 4]? = some (.slice none 0 0)) := hrc 4 (by omega)
    have HKF := Lib.hid hkf
    have HRL := Lib.hid hrl
    have HKL := Lib.hid hkl
    have HHX := Lib.hid hX1
    have HKX := Lib.hid hkx1
    have HCS := Lib.hid hc
    have HFF := Lib.hid hF
    have HADD := Lib.hid hadd
    obtain ⟨i0, hi0', hz0, hz1, hz2⟩ := info_parts span_info
    have hxb : n0 ≠ ob := by omega
    have hxs1 : (Value.slice As m cs').ownBlock ≠ some n0 := fun h => by have := hsl _ h; omega
    have hbw1 := ho1.lt
    have hj0 : (0 : Int) ≤ (m : Int) := by omega
    have hj1 : (m : Int) < (m : Int) + 1 := by omega
    clear hrc hkf hrl hkl hc hF hadd hlt hx hkx1 hi0 hi1 hcq
    go_wp2
    refine wp_region_held_drew (S := (fun w' => w'.cell? ⟨n0, 0, none⟩ = some (.int .u8 (x.kind : Int)) ∧ w'.cell? ⟨n0, 1, none⟩ = some (.string ⟨x.text.toArray⟩) ∧ w'.cell? ⟨n0, 2, none⟩ = some (.string ⟨x.sub.toArray⟩) ∧ w'.cell? ⟨n0, 3, none⟩ = some (.string ⟨x.see.toArray⟩) ∧ w'.cell? ⟨n0, 4, none⟩ = some (.slice Ak kn ck))) (by kernel_rfl) ?_ (fun hHeld0 => ?_)
    · (try dsimp only)
      refine cells5 (t := 32) ?_
      repeat (first | with_reducible exact hX1 | with_reducible exact hx2 | with_reducible refine Holds.far ?_ hxgg _ | with_reducible refine Holds.far ?_ hxb _ | with_reducible refine Holds.alloc ?_ _ | with_reducible refine Holds.drew ?_)
    refine wpAnyH_take (i := 0) (oi := ⟨some 66, _, _, _, _, _⟩) (v := ?_) rfl (by kernel_rfl) (by kernel_rfl) (by kernel_rfl) (fun _ _ _ h => h) (Or.inl ⟨by kernel_rfl, ?_⟩) (by assumption) ?_
    rotate_left
    · (intro w hSw; (try dsimp only at hSw); go_simp; (first | done | with_reducible rfl))
    (try simp only [Act.put, List.setIfInBounds_toArray, List.set_cons_zero, List.set_cons_succ])
    refine wpAnyH_take (i := 1) (oi := ⟨some 67, _, _, _, _, _⟩) (v := ?_) rfl (by kernel_rfl) (by kernel_rfl) (by kernel_rfl) (fun _ _ _ h => h) (Or.inl ⟨by kernel_rfl, ?_⟩) (by assumption) ?_
    rotate_left
    · (intro w hSw; (try dsimp only at hSw); go_simp; (first | done | with_reducible rfl))
    (try simp only [Act.put, List.setIfInBounds_toArray, List.set_cons_zero, List.set_cons_succ])
    refine wpAnyH_take (i := 3) (oi := ⟨some 69, _, _, _, _, _⟩) (v := ?_) rfl (by kernel_rfl) (by kernel_rfl) (by kernel_rfl) (fun _ _ _ h => h) (Or.inl ⟨by kernel_rfl, ?_⟩) (by assumption) ?_
    rotate_left
    · (intro w hSw; (try dsimp only at hSw); go_simp; (first | done | with_reducible rfl))
    (try simp only [Act.put, List.setIfInBounds_toArray, List.set_cons_zero, List.set_cons_succ])
    refine wpAnyH_ready (rs := [2, 5]) (by kernel_rfl) (by simp) ?_
    refine AllReadyH.cons (o := ⟨some 68, _, _, _, _, _⟩) rfl (fun K hK => ?_) ?_
    · skip
      go_simp
      refine hK.out _ _ ?_ (fun hHeld1 => ?_)
      · (try dsimp only)
        refine cells5 (t := 32) ?_
        repeat (first | with_reducible exact hX1 | with_reducible exact hx2 | with_reducible refine Holds.far ?_ hxgg _ | with_reducible refine Holds.far ?_ hxb _ | with_reducible refine Holds.alloc ?_ _ | with_reducible refine Holds.drew ?_)
      clear hK K hHeld0
      (try simp only [Act.put, List.setIfInBounds_toArray, List.set_cons_zero, List.set_cons_succ])
      refine wpAnyH_take (i := 4) (oi := ⟨some 70, _, _, _, _, _⟩) (v := ?_) rfl (by kernel_rfl) (by kernel_rfl) (by kernel_rfl) (fun _ _ _ h => h) (Or.inl ⟨by kernel_rfl, ?_⟩) (by assumption) ?_
      rotate_left
      · (intro w hSw; (try dsimp only at hSw); go_simp; (first | done | with_reducible rfl))
      (try simp only [Act.put, List.setIfInBounds_toArray, List.set_cons_zero, List.set_cons_succ])
      refine wpAnyH_ready (rs := [5]) (by kernel_rfl) (by simp) ?_
      refine AllReadyH.cons (o := ⟨some 71, _, _, _, _, _⟩) rfl (fun K hK => ?_) AllReadyH.nil
      go_simp
      refine hK.out _ _ ?_ (fun hHeld2 => ?_)
      · (try dsimp only)
        refine cells5 (t := 32) ?_
        repeat (first | with_reducible exact hX1 | with_reducible exact hx2 | with_reducible refine Holds.far ?_ hxgg _ | with_reducible refine Holds.far ?_ hxb _ | with_reducible refine Holds.alloc ?_ _ | with_reducible refine Holds.drew ?_)
      clear hK K hHeld1
      (try simp only [Act.put, List.setIfInBounds_toArray, List.set_cons_zero, List.set_cons_succ])
      refine wpAnyH_ready (rs := [6]) (by kernel_rfl) (by simp) ?_
      refine AllReadyH.cons (o := ⟨some 72, _, _, _, _, _⟩) rfl (fun K hK => ?_) AllReadyH.nil
      refine step_append_lies _ (by rfl) _ _ _ (by rfl) B 32 i0 _ 5 80 Tryz.underlying22 hi0' hz0 hz1 hz2 rfl (by omega) (.slice As m cs') m (rowCells l kvs) (by rfl) ((hso.alloc _).drew)
        ⟨W1.heap.size, 0, none⟩ 1 1 [.int .u8 0, .string ⟨#[]⟩, .string ⟨#[]⟩, .string ⟨#[]⟩, .slice none 0 0] (by rfl) (by rfl) (World.news_of_block (cs := #[.int .u8 0, .string ⟨#[]⟩, .string ⟨#[]⟩, .string ⟨#[]⟩, .slice none 0 0]) (t := 32) (fr := (0, 0)) (heap_alloc_new W1 _)) (by simp [Value.oneCell'])
        (by omega) (by unfold maxLen; omega) (by omega) (by simp; omega) (W1.heap.size + 1) (by simp) ?_
      intro gg cap1 w2 hown1 hgrow hat hlt2
      have hggb : gg ≠ ob := fun e => by
        rcases hat with h | h
        · exact hbs (h.trans (by rw [e]))
        · omega
      have hbgg : ob ≠ gg := fun e => hggb e.symm
      have hxgg : n0 ≠ gg := fun e => by
        rcases hat with h | h
        · exact hxs1 (h.trans (by rw [e]))
        · omega
      have hch1 := Chg.grown hgrow
      have hh1 := hch1.holds (fun h => hbs h.symm) ((ho1.alloc _).drew)
      have hx2 := hch1.holds (fun h => hxs1 h.symm) ((hX1.alloc _).drew)
      have k1 := (hh1.cell (n * 4 + 3)).trans HCS.out
      have k2 := hh1.free (n * 4 + 3)
      have z0 := hown1.cellAt (m * 5) (by omega)
      have z1 := hown1.cellAt (m * 5 + 1) (by omega)
      have z2 := hown1.cellAt (m * 5 + 2) (by omega)
      have z3 := hown1.cellAt (m * 5 + 3) (by omega)
      have z4 := hown1.cellAt (m * 5 + 4) (by omega)
      have y0 := hown1.frozenAt (m * 5)
      have y1 := hown1.frozenAt (m * 5 + 1)
      have y2 := hown1.frozenAt (m * 5 + 2)
      have y3 := hown1.frozenAt (m * 5 + 3)
      have y4 := hown1.frozenAt (m * 5 + 4)
      rw [hrc0.out] at z0
      rw [hrc1.out] at z1
      rw [hrc2.out] at z2
      rw [hrc3.out] at z3
      rw [hrc4.out] at z4
      have HOWN := Lib.hid hown1
      have HAT := Lib.hid hat
      have hggo : (Value.slice (some ⟨gg, 0, none⟩) (m + 1) cap1).ownBlock ≠ some ob := fun e => hggb (by simpa [Value.ownBlock] using e)
      have HC0 : Hid (Chg W1 w2 (fun k => k = ob ∨ (Value.slice As m cs').ownBlock = some k)) := (((Chg.refl W1 _).alloc _).drew).trans hch1 (fun k _ h => Or.inr h.symm)
      have HTG : Hid (∀ k, k < W1.heap.size → k = gg → (k = ob ∨ (Value.slice As m cs').ownBlock = some k)) := fun k hk e => by
        subst e
        rcases hat with h | h
        · exact Or.inr h
        · omega
      have HTB : Hid (∀ k, k < W1.heap.size → k = ob → (k = ob ∨ (Value.slice As m cs').ownBlock = some k)) := fun k _ e => Or.inl e
      clear hown1 hat hch1 hgrow
      refine hK.out _ _ ?_ (fun hHeld3 => ?_)
      · (try dsimp only)
        refine cells5 (t := 32) ?_
        repeat (first | with_reducible exact hX1 | with_reducible exact hx2 | with_reducible refine Holds.far ?_ hxgg _ | with_reducible refine Holds.far ?_ hxb _ | with_reducible refine Holds.alloc ?_ _ | with_reducible refine Holds.drew ?_)
      clear hK K hHeld2
      (try simp only [Act.put, List.setIfInBounds_toArray, List.set_cons_zero, List.set_cons_succ])
      refine wpAnyH_take (i := 7) (oi := ⟨some 73, _, _, _, _, _⟩) (v := ?_) rfl (by kernel_rfl) (by kernel_rfl) (by kernel_rfl) (fun _ _ _ h => h) (Or.inl ⟨by kernel_rfl, ?_⟩) (by assumption) ?_
      rotate_left
      · (intro w hSw; (try dsimp only at hSw); go_simp; (first | done | with_reducible rfl))
      (try simp only [Act.put, List.setIfInBounds_toArray, List.set_cons_zero, List.set_cons_succ])
      refine wpAnyH_take (i := 9) (oi := ⟨some 74, _, _, _, _, _⟩) (v := ?_) rfl (by kernel_rfl) (by kernel_rfl) (by kernel_rfl) (fun _ _ _ h => h) (Or.inl ⟨by kernel_rfl, ?_⟩) (by assumption) ?_
      rotate_left
      · (intro w hSw; (try dsimp only at hSw); go_simp; (first | done | with_reducible rfl))
      (try simp only [Act.put, List.setIfInBounds_toArray, List.set_cons_zero, List.set_cons_succ])
      refine wpAnyH_ready (rs := [8, 10]) (by kernel_rfl) (by simp) ?_
      refine AllReadyH.cons rfl (fun K hK => ?_) ?_
      · skip
        go_simp
        refine hK.out _ _ ?_ (fun hHeld4 => ?_)
        · (try dsimp only)
          refine cells5 (t := 32) ?_
          repeat (first | with_reducible exact hX1 | with_reducible exact hx2 | with_reducible refine Holds.far ?_ hxgg _ | with_reducible refine Holds.far ?_ hxb _ | with_reducible refine Holds.alloc ?_ _ | with_reducible refine Holds.drew ?_)
        clear hK K hHeld3
        (try simp only [Act.put, List.setIfInBounds_toArray, List.set_cons_zero, List.set_cons_succ])
        refine wpAnyH_ready (rs := [10]) (by kernel_rfl) (by simp) ?_
        refine AllReadyH.cons rfl (fun K hK => ?_) AllReadyH.nil
        go_simp
        refine hK.out _ _ ?_ (fun hHeld5 => ?_)
        · (try dsimp only)
          refine cells5 (t := 32) ?_
          repeat (first | with_reducible exact hX1 | with_reducible exact hx2 | with_reducible refine Holds.far ?_ hxgg _ | with_reducible refine Holds.far ?_ hxb _ | with_reducible refine Holds.alloc ?_ _ | with_reducible refine Holds.drew ?_)
        clear hK K hHeld4
        (try simp only [Act.put, List.setIfInBounds_toArray, List.set_cons_zero, List.set_cons_succ])
        refine wpAnyH_done (by kernel_rfl) ?_ _
        clear hHeld5
        go_wp2
        go_end0
        refine ⟨rfl, .slice (some ⟨gg, 0, none⟩) (m + 1) cap1, ?_, ?_, ?_, ?_⟩
        · repeat (first | with_reducible exact hh1 | with_reducible refine Holds.set ?_ _ _ | with_reducible refine Holds.far ?_ hbgg _)
        · rw [HADD.out]
          refine added_row (z0 := .int .u8 0) (z1 := .string ⟨#[]⟩) (z2 := .string ⟨#[]⟩) (z3 := .string ⟨#[]⟩) (z4 := .slice none 0 0) (kv := .slice Ak kn ck) (S := fun k => k = ob ∨ (Value.slice As m cs').ownBlock = some k) HKL.out (by rw [HM.out]; exact HRL.out) HKF.out HKX.out ?_ (fun k hk h => by
            have := HFF.out k hk
            rcases h with h | h
            · exact this.2.1 h
            · exact this.2.2 h) ?_
          · repeat (first | with_reducible exact HC0.out | with_reducible refine Chg.step ?_ HTG.out | with_reducible refine Chg.step ?_ HTB.out)
          · rw [HM.out]
            repeat (first | with_reducible refine (World.ownsRow.stored ?_ _ _).1 | with_reducible refine ownsRow_setCell_other ?_ hggo _)
            exact HOWN.out
        · refine Chg.trans (S := fun k => k = ob ∨ (Value.slice As m cs').ownBlock = some k) (T := fun k => k = ob ∨ (Value.slice As m cs').ownBlock = some k) (HCQ.out.mono (fun _ _ h => h.elim)) ?_ (fun k hk h => h)
          repeat (first | with_reducible exact HC0.out | with_reducible refine Chg.step ?_ HTG.out | with_reducible refine Chg.step ?_ HTB.out)
        · intro k hk
          simp only [Value.ownBlock, Option.some.injEq] at hk
          subst hk
          rcases HAT.out with h | h
          · exact .inl h
          · exact .inr (by have := HW0.out.2; omega)
      refine AllReadyH.cons rfl (fun K hK => ?_) AllReadyH.nil
      go_simp
      refine hK.out _ _ ?_ (fun hHeld4 => ?_)
      · (try dsimp only)
        refine cells5 (t := 32) ?_
        repeat (first | with_reducible exact hX1 | with_reducible exact hx2 | with_reducible refine Holds.far ?_ hxgg _ | with_reducible refine Holds.far ?_ hxb _ | with_reducible refine Holds.alloc ?_ _ | with_reducible refine Holds.drew ?_)
      clear hK K hHeld3
      (try simp only [Act.put, List.setIfInBounds_toArray, List.set_cons_zero, List.set_cons_succ])
      refine wpAnyH_ready (rs := [8]) (by kernel_rfl) (by simp) ?_
      refine AllReadyH.cons rfl (fun K hK => ?_) AllReadyH.nil
      go_simp
      refine hK.out _ _ ?_ (fun hHeld5 => ?_)
      · (try dsimp only)
        refine cells5 (t := 32) ?_
        repeat (first | with_reducible exact hX1 | with_reducible exact hx2 | with_reducible refine Holds.far ?_ hxgg _ | with_reducible refine Holds.far ?_ hxb _ | with_reducible refine Holds.alloc ?_ _ | with_reducible refine Holds.drew ?_)
      clear hK K hHeld4
      (try simp only [Act.put, List.setIfInBounds_toArray, List.set_cons_zero, List.set_cons_succ])
      refine wpAnyH_done (by kernel_rfl) ?_ _
      clear hHeld5
      go_wp2
      go_end0
      refine ⟨rfl, .slice (some ⟨gg, 0, none⟩) (m + 1) cap1, ?_, ?_, ?_, ?_⟩
      · repeat (first | with_reducible exact hh1 | with_reducible refine Holds.set ?_ _ _ | with_reducible refine Holds.far ?_ hbgg _)
      · rw [HADD.out]
        refine added_row (z0 := .int .u8 0) (z1 := .string ⟨#[]⟩) (z2 := .string ⟨#[]⟩) (z3 := .string ⟨#[]⟩) (z4 := .slice none 0 0) (kv := .slice Ak kn ck) (S := fun k => k = ob ∨ (Value.slice As m cs').ownBlock = some k) HKL.out (by rw [HM.out]; exact HRL.out) HKF.out HKX.out ?_ (fun k hk h => by
          have := HFF.out k hk
          rcases h with h | h
          · exact this.2.1 h
          · exact this.2.2 h) ?_
        · repeat (first | with_reducible exact HC0.out | with_reducible refine Chg.step ?_ HTG.out | with_reducible refine Chg.step ?_ HTB.out)
        · rw [HM.out]
          repeat (first | with_reducible refine (World.ownsRow.stored ?_ _ _).1 | with_reducible refine ownsRow_setCell_other ?_ hggo _)
          exact HOWN.out
      · refine Chg.trans (S := fun k => k = ob ∨ (Value.slice As m cs').ownBlock = some k) (T := fun k => k = ob ∨ (Value.slice As m cs').ownBlock = some k) (HCQ.out.mono (fun _ _ h => h.elim)) ?_ (fun k hk h => h)
        repeat (first | with_reducible exact HC0.out | with_reducible refine Chg.step ?_ HTG.out | with_reducible refine Chg.step ?_ HTB.out)
      · intro k hk
        simp only [Value.ownBlock, Option.some.injEq] at hk
        subst hk
        rcases HAT.out with h | h
        · exact .inl h
        · exact .inr (by have := HW0.out.2; omega)
    refine AllReadyH.cons (o := ⟨some 71, _, _, _, _, _⟩) rfl (fun K hK => ?_) AllReadyH.nil
    go_simp
    refine hK.out _ _ ?_ (fun hHeld1 => ?_)
    · (try dsimp only)
      refine cells5 (t := 32) ?_
      repeat (first | with_reducible exact hX1 | with_reducible exact hx2 | with_reducible refine Holds.far ?_ hxgg _ | with_reducible refine Holds.far ?_ hxb _ | with_reducible refine Holds.alloc ?_ _ | with_reducible refine Holds.drew ?_)
    clear hK K hHeld0
    (try simp only [Act.put, List.setIfInBounds_toArray, List.set_cons_zero, List.set_cons_succ])
    refine wpAnyH_ready (rs := [2]) (by kernel_rfl) (by simp) ?_
    refine AllReadyH.cons (o := ⟨some 68, _, _, _, _, _⟩) rfl (fun K hK => ?_) AllReadyH.nil
    go_simp
    refine hK.out _ _ ?_ (fun hHeld2 => ?_)
    · (try dsimp only)
      refine cells5 (t := 32) ?_
      repeat (first | with_reducible exact hX1 | with_reducible exact hx2 | with_reducible refine Holds.far ?_ hxgg _ | with_reducible refine Holds.far ?_ hxb _ | with_reducible refine Holds.alloc ?_ _ | with_reducible refine Holds.drew ?_)
    clear hK K hHeld1
    (try simp only [Act.put, List.setIfInBounds_toArray, List.set_cons_zero, List.set_cons_succ])
    refine wpAnyH_take (i := 4) (oi := ⟨some 70, _, _, _, _, _⟩) (v := ?_) rfl (by kernel_rfl) (by kernel_rfl) (by kernel_rfl) (fun _ _ _ h => h) (Or.inl ⟨by kernel_rfl, ?_⟩) (by assumption) ?_
    rotate_left
    · (intro w hSw; (try dsimp only at hSw); go_simp; (first | done | with_reducible rfl))
    (try simp only [Act.put, List.setIfInBounds_toArray, List.set_cons_zero, List.set_cons_succ])
    refine wpAnyH_ready (rs := [6]) (by kernel_rfl) (by simp) ?_
    refine AllReadyH.cons (o := ⟨some 72, _, _, _, _, _⟩) rfl (fun K hK => ?_) AllReadyH.nil
    refine step_append_lies _ (by rfl) _ _ _ (by rfl) B 32 i0 _ 5 80 Tryz.underlying22 hi0' hz0 hz1 hz2 rfl (by omega) (.slice As m cs') m (rowCells l kvs) (by rfl) ((hso.alloc _).drew)
      ⟨W1.heap.size, 0, none⟩ 1 1 [.int .u8 0, .string ⟨#[]⟩, .string ⟨#[]⟩, .string ⟨#[]⟩, .slice none 0 0] (by rfl) (by rfl) (World.news_of_block (cs := #[.int .u8 0, .string ⟨#[]⟩, .string ⟨#[]⟩, .string ⟨#[]⟩, .slice none 0 0]) (t := 32) (fr := (0, 0)) (heap_alloc_new W1 _)) (by simp [Value.oneCell'])
      (by omega) (by unfold maxLen; omega) (by omega) (by simp; omega) (W1.heap.size + 1) (by simp) ?_
    intro gg cap1 w2 hown1 hgrow hat hlt2
    have hggb : gg ≠ ob := fun e => by
      rcases hat with h | h
      · exact hbs (h.trans (by rw [e]))
      · omega
    have hbgg : ob ≠ gg := fun e => hggb e.symm
    have hxgg : n0 ≠ gg := fun e => by
      rcases hat with h | h
      · exact hxs1 (h.trans (by rw [e]))
      · omega
    have hch1 := Chg.grown hgrow
    have hh1 := hch1.holds (fun h => hbs h.symm) ((ho1.alloc _).drew)
    have hx2 := hch1.holds (fun h => hxs1 h.symm) ((hX1.alloc _).drew)
    have k1 := (hh1.cell (n * 4 + 3)).trans HCS.out
    have k2 := hh1.free (n * 4 + 3)
    have z0 := hown1.cellAt (m * 5) (by omega)
    have z1 := hown1.cellAt (m * 5 + 1) (by omega)
    have z2 := hown1.cellAt (m * 5 + 2) (by omega)
    have z3 := hown1.cellAt (m * 5 + 3) (by omega)
    have z4 := hown1.cellAt (m * 5 + 4) (by omega)
    have y0 := hown1.frozenAt (m * 5)
    have y1 := hown1.frozenAt (m * 5 + 1)
    have y2 := hown1.frozenAt (m * 5 + 2)
    have y3 := hown1.frozenAt (m * 5 + 3)
    have y4 := hown1.frozenAt (m * 5 + 4)
    rw [hrc0.out] at z0
    rw [hrc1.out] at z1
    rw [hrc2.out] at z2
    rw [hrc3.out] at z3
    rw [hrc4.out] at z4
    have HOWN := Lib.hid hown1
    have HAT := Lib.hid hat
    have hggo : (Value.slice (some ⟨gg, 0, none⟩) (m + 1) cap1).ownBlock ≠ some ob := fun e => hggb (by simpa [Value.ownBlock] using e)
    have HC0 : Hid (Chg W1 w2 (fun k => k = ob ∨ (Value.slice As m cs').ownBlock = some k)) := (((Chg.refl W1 _).alloc _).drew).trans hch1 (fun k _ h => Or.inr h.symm)
    have HTG : Hid (∀ k, k < W1.heap.size → k = gg → (k = ob ∨ (Value.slice As m cs').ownBlock = some k)) := fun k hk e => by
      subst e
      rcases hat with h | h
      · exact Or.inr h
      · omega
    have HTB : Hid (∀ k, k < W1.heap.size → k = ob → (k = ob ∨ (Value.slice As m cs').ownBlock = some k)) := fun k _ e => Or.inl e
    clear hown1 hat hch1 hgrow
    refine hK.out _ _ ?_ (fun hHeld3 => ?_)
    · (try dsimp only)
      refine cells5 (t := 32) ?_
      repeat (first | with_reducible exact hX1 | with_reducible exact hx2 | with_reducible refine Holds.far ?_ hxgg _ | with_reducible refine Holds.far ?_ hxb _ | with_reducible refine Holds.alloc ?_ _ | with_reducible refine Holds.drew ?_)
    clear hK K hHeld2
    (try simp only [Act.put, List.setIfInBounds_toArray, List.set_cons_zero, List.set_cons_succ])
    refine wpAnyH_take (i := 7) (oi := ⟨some 73, _, _, _, _, _⟩) (v := ?_) rfl (by kernel_rfl) (by kernel_rfl) (by kernel_rfl) (fun _ _ _ h => h) (Or.inl ⟨by kernel_rfl, ?_⟩) (by assumption) ?_
    rotate_left
    · (intro w hSw; (try dsimp only at hSw); go_simp; (first | done | with_reducible rfl))
    (try simp only [Act.put, List.setIfInBounds_toArray, List.set_cons_zero, List.set_cons_succ])
    refine wpAnyH_take (i := 9) (oi := ⟨some 74, _, _, _, _, _⟩) (v := ?_) rfl (by kernel_rfl) (by kernel_rfl) (by kernel_rfl) (fun _ _ _ h => h) (Or.inl ⟨by kernel_rfl, ?_⟩) (by assumption) ?_
    rotate_left
    · (intro w hSw; (try dsimp only at hSw); go_simp; (first | done | with_reducible rfl))
    (try simp only [Act.put, List.setIfInBounds_toArray, List.set_cons_zero, List.set_cons_succ])
    refine wpAnyH_ready (rs := [8, 10]) (by kernel_rfl) (by simp) ?_
    refine AllReadyH.cons rfl (fun K hK => ?_) ?_
    · skip
      go_simp
      refine hK.out _ _ ?_ (fun hHeld4 => ?_)
      · (try dsimp only)
        refine cells5 (t := 32) ?_
        repeat (first | with_reducible exact hX1 | with_reducible exact hx2 | with_reducible refine Holds.far ?_ hxgg _ | with_reducible refine Holds.far ?_ hxb _ | with_reducible refine Holds.alloc ?_ _ | with_reducible refine Holds.drew ?_)
      clear hK K hHeld3
      (try simp only [Act.put, List.setIfInBounds_toArray, List.set_cons_zero, List.set_cons_succ])
      refine wpAnyH_ready (rs := [10]) (by kernel_rfl) (by simp) ?_
      refine AllReadyH.cons rfl (fun K hK => ?_) AllReadyH.nil
      go_simp
      refine hK.out _ _ ?_ (fun hHeld5 => ?_)
      · (try dsimp only)
        refine cells5 (t := 32) ?_
        repeat (first | with_reducible exact hX1 | with_reducible exact hx2 | with_reducible refine Holds.far ?_ hxgg _ | with_reducible refine Holds.far ?_ hxb _ | with_reducible refine Holds.alloc ?_ _ | with_reducible refine Holds.drew ?_)
      clear hK K hHeld4
      (try simp only [Act.put, List.setIfInBounds_toArray, List.set_cons_zero, List.set_cons_succ])
      refine wpAnyH_done (by kernel_rfl) ?_ _
      clear hHeld5
      go_wp2
      go_end0
      refine ⟨rfl, .slice (some ⟨gg, 0, none⟩) (m + 1) cap1, ?_, ?_, ?_, ?_⟩
      · repeat (first | with_reducible exact hh1 | with_reducible refine Holds.set ?_ _ _ | with_reducible refine Holds.far ?_ hbgg _)
      · rw [HADD.out]
        refine added_row (z0 := .int .u8 0) (z1 := .string ⟨#[]⟩) (z2 := .string ⟨#[]⟩) (z3 := .string ⟨#[]⟩) (z4 := .slice none 0 0) (kv := .slice Ak kn ck) (S := fun k => k = ob ∨ (Value.slice As m cs').ownBlock = some k) HKL.out (by rw [HM.out]; exact HRL.out) HKF.out HKX.out ?_ (fun k hk h => by
          have := HFF.out k hk
          rcases h with h | h
          · exact this.2.1 h
          · exact this.2.2 h) ?_
        · repeat (first | with_reducible exact HC0.out | with_reducible refine Chg.step ?_ HTG.out | with_reducible refine Chg.step ?_ HTB.out)
        · rw [HM.out]
          repeat (first | with_reducible refine (World.ownsRow.stored ?_ _ _).1 | with_reducible refine ownsRow_setCell_other ?_ hggo _)
          exact HOWN.out
      · refine Chg.trans (S := fun k => k = ob ∨ (Value.slice As m cs').ownBlock = some k) (T := fun k => k = ob ∨ (Value.slice As m cs').ownBlock = some k) (HCQ.out.mono (fun _ _ h => h.elim)) ?_ (fun k hk h => h)
        repeat (first | with_reducible exact HC0.out | with_reducible refine Chg.step ?_ HTG.out | with_reducible refine Chg.step ?_ HTB.out)
      · intro k hk
        simp only [Value.ownBlock, Option.some.injEq] at hk
        subst hk
        rcases HAT.out with h | h
        · exact .inl h
        · exact .inr (by have := HW0.out.2; omega)
    refine AllReadyH.cons rfl (fun K hK => ?_) AllReadyH.nil
    go_simp
    refine hK.out _ _ ?_ (fun hHeld4 => ?_)
    · (try dsimp only)
      refine cells5 (t := 32) ?_
      repeat (first | with_reducible exact hX1 | with_reducible exact hx2 | with_reducible refine Holds.far ?_ hxgg _ | with_reducible refine Holds.far ?_ hxb _ | with_reducible refine Holds.alloc ?_ _ | with_reducible refine Holds.drew ?_)
    clear hK K hHeld3
    (try simp only [Act.put, List.setIfInBounds_toArray, List.set_cons_zero, List.set_cons_succ])
    refine wpAnyH_ready (rs := [8]) (by kernel_rfl) (by simp) ?_
    refine AllReadyH.cons rfl (fun K hK => ?_) AllReadyH.nil
    go_simp
    refine hK.out _ _ ?_ (fun hHeld5 => ?_)
    · (try dsimp only)
      refine cells5 (t := 32) ?_
      repeat (first | with_reducible exact hX1 | with_reducible exact hx2 | with_reducible refine Holds.far ?_ hxgg _ | with_reducible refine Holds.far ?_ hxb _ | with_reducible refine Holds.alloc ?_ _ | with_reducible refine Holds.drew ?_)
    clear hK K hHeld4
    (try simp only [Act.put, List.setIfInBounds_toArray, List.set_cons_zero, List.set_cons_succ])
    refine wpAnyH_done (by kernel_rfl) ?_ _
    clear hHeld5
    go_wp2
    go_end0
    refine ⟨rfl, .slice (some ⟨gg, 0, none⟩) (m + 1) cap1, ?_, ?_, ?_, ?_⟩
    · repeat (first | with_reducible exact hh1 | with_reducible refine Holds.set ?_ _ _ | with_reducible refine Holds.far ?_ hbgg _)
    · rw [HADD.out]
      refine added_row (z0 := .int .u8 0) (z1 := .string ⟨#[]⟩) (z2 := .string ⟨#[]⟩) (z3 := .string ⟨#[]⟩) (z4 := .slice none 0 0) (kv := .slice Ak kn ck) (S := fun k => k = ob ∨ (Value.slice As m cs').ownBlock = some k) HKL.out (by rw [HM.out]; exact HRL.out) HKF.out HKX.out ?_ (fun k hk h => by
        have := HFF.out k hk
        rcases h with h | h
        · exact this.2.1 h
        · exact this.2.2 h) ?_
      · repeat (first | with_reducible exact HC0.out | with_reducible refine Chg.step ?_ HTG.out | with_reducible refine Chg.step ?_ HTB.out)
      · rw [HM.out]
        repeat (first | with_reducible refine (World.ownsRow.stored ?_ _ _).1 | with_reducible refine ownsRow_setCell_other ?_ hggo _)
        exact HOWN.out
    · refine Chg.trans (S := fun k => k = ob ∨ (Value.slice As m cs').ownBlock = some k) (T := fun k => k = ob ∨ (Value.slice As m cs').ownBlock = some k) (HCQ.out.mono (fun _ _ h => h.elim)) ?_ (fun k hk h => h)
      repeat (first | with_reducible exact HC0.out | with_reducible refine Chg.step ?_ HTG.out | with_reducible refine Chg.step ?_ HTB.out)
    · intro k hk
      simp only [Value.ownBlock, Option.some.injEq] at hk
      subst hk
      rcases HAT.out with h | h
      · exact .inl h
      · exact .inr (by have := HW0.out.2; omega)
  · by_cases hyk : y.kind = 0
    rotate_left
    · have hadd : putQ l x = l ++ [x] := by
        unfold putQ
        rw [if_neg hA, hl0, List.concat_eq_append, List.getLast?_append]
        simp only [List.getLast?_singleton, Option.some_or, hyk, and_false, if_false]
      have hyk0 : ((y.kind : Int) == 0) = false := by simp; omega
      obtain ⟨p, hp5⟩ : ∃ p, l0.length = p := ⟨_, rfl⟩
      have hm : l.length = p + 1 := by rw [hl0, List.concat_eq_append, List.length_append, hp5]; rfl
      have hy : l[p]? = some y := by rw [hl0, List.concat_eq_append, List.getElem?_append_right (by omega), hp5, Nat.sub_self]; rfl
      have hsp0 := hsp
      rw [hm] at hsp0 hc hbs hps hF hl hcs' hsl ⊢
      have HM := Lib.hid hm
      have HY := Lib.hid (And.intro hl0 (And.intro hp5 hy))
      clear hm hA hsp hl0 hp5 hy
      clear hk
      go_enter Tryz.func65, Tryz.ntmps65
      go_wp2
      (try rw [hW0])
      (try rw [hn0])
      have HW0 := Lib.hid (And.intro hW0 hn0)
      clear hW0 hn0
      go_quiet (fail)
      obtain ⟨W1, hW1⟩ : ∃ W1, W0.drewN nq = W1 := ⟨_, rfl⟩
      rw [hW1]
      have hcq : Chg w W1 (fun _ => False) := hW1 ▸ hc1.drewN nq
      have hsq : W1.heap.size = n0 + 1 := by rw [← hW1]; exact hsz0
      have hX1 : Holds W1 n0 32 #[.int .u8 (x.kind : Int), .string ⟨x.text.toArray⟩, .string ⟨x.sub.toArray⟩, .string ⟨x.see.toArray⟩, .slice Ak kn ck] := hW1 ▸ hX
      have HCQ := Lib.hid hcq
      have ho1 := hcq.holds (fun h => h) ho
      have q1 := (ho1.cell (n * 4 + 3)).trans hc
      have x0 := hX1.cell 0
      have x1 := hX1.cell 1
      simp at x0 x1
      have HSQ := Lib.hid hsq
      have hsg : n0 < W1.heap.size := by omega
      clear hW1 hc1 hX p1 hp0 ho0 hp hsz0 hsq
      have hsp1 := hsp0.chg hcq (fun _ h => h) (fun _ _ h => h) (fun _ _ h => h)
      clear hsp0
      obtain ⟨kvs, hkl, hso, hkf⟩ := hsp1
      have hkx1 : Forest W1 F (.slice Ak kn ck) x.kids := HKN.out ▸ hxF.chg hcq (fun _ h => h) (fun _ _ h => h)
      rw [HM.out] at hso
      obtain ⟨g5, rfl⟩ : ∃ g, As = some ⟨g, 0, none⟩ := by
        rcases hso.2 with ⟨hv, h0⟩ | ⟨g, cap', cur, hv, _⟩
        · omega
        · injection hv with e1
          exact ⟨g, e1⟩
      obtain ⟨ku, hku⟩ : ∃ ku, kvs[p]? = some ku := ⟨_, List.getElem?_eq_getElem (by have := HM.out; omega)⟩
      have hcell : ∀ i u, (spCells y ku)[i]? = some u → W1.cell? ⟨g5, p * 5 + i, none⟩ = some u := fun i u hu => by have h9 := hso.cells (g := g5) rfl _ u (rowCells_get HY.out.2.2 hku hu); rw [addr_addM, Nat.zero_add] at h9; exact h9
      have l0 := hcell 0 _ rfl
      have l1 := hcell 1 _ rfl
      rw [Nat.add_zero] at l0
      unfold strV at l1
      clear hcell
      have hrl := rowCells_length hkl
      rw [HM.out] at hrl
      have hrc : ∀ i, i < 5 → (rowCells l kvs ++ [.int .u8 0, .string ⟨#[]⟩, .string ⟨#[]⟩, .string ⟨#[]⟩, .slice none 0 0])[(p + 1) * 5 + i]? = ([.int .u8 0, .string ⟨#[]⟩, .string ⟨#[]⟩, .string ⟨#[]⟩, .slice none 0 0] : List Value)[i]? := fun i _ => by
        rw [List.getElem?_append_right (by omega)]
        congr 1; omega
      have hrc0 : Hid ((rowCells l kvs ++ [.int .u8 0, .string ⟨#[]⟩, .string ⟨#[]⟩, .string ⟨#[]⟩, .slice none 0 0])[(p + 1) * 5]? = some (.int .u8 0)) := hrc 0 (by omega)
      have hrc1 : Hid ((rowCells l kvs ++ [.int .u8 0, .string ⟨#[]⟩, .string ⟨#[]⟩, .string ⟨#[]⟩, .slice none 0 0])[(p + 1) * 5 + 1]? = some (.string ⟨#[]⟩)) := hrc 1 (by omega)
      have hrc2 : Hid ((rowCells l kvs ++ [.int .u8 0, .string ⟨#[]⟩, .string ⟨#[]⟩, .string ⟨#[]⟩, .slice none 0 0])[(p + 1) * 5 + 2]? = some (.string ⟨#[]⟩)) := hrc 2 (by omega)
      have hrc3 : Hid ((rowCells l kvs ++ [.int .u8 0, .string ⟨#[]⟩, .string ⟨#[]⟩, .string ⟨#[]⟩, .slice none 0 0])[(p + 1) * 5 + 3]? = some (.string ⟨#[]⟩)) := hrc 3 (by omega)
      have hrc4 : Hid ((rowCells l kvs ++ [.int .u8 0, .string ⟨#[]⟩, .string ⟨#[]⟩, .string ⟨#[]⟩, .slice none 0 0])[(p + 1) * 5 + 4]? = some (.slice none 0 0)) := hrc 4 (by omega)
      have HKF := Lib.hid hkf
      have HRL := Lib.hid hrl
      have HKL := Lib.hid hkl
      have HHX := Lib.hid hX1
      have HKX := Lib.hid hkx1
      have HCS := Lib.hid hc
      have HFF := Lib.hid hF
      have HADD := Lib.hid hadd
      obtain ⟨i0, hi0', hz0, hz1, hz2⟩ := info_parts span_info
      have hxb : n0 ≠ ob := by omega
      have hxs1 : (Value.slice (some ⟨g5, 0, none⟩) (p + 1) cs').ownBlock ≠ some n0 := fun h => by have := hsl _ h; omega
      have hbw1 := ho1.lt
      have hj0 : (0 : Int) ≤ (p : Int) + 1 := by omega
      have hj1 : (p : Int) < (p : Int) + 1 := by omega
      clear hrc hkf hrl hkl hc hF hadd hlt hx hkx1 hi0 hi1 hcq
      go_wp2
      refine wp_region_held_drew (S := (fun w' => w'.cell? ⟨n0, 0, none⟩ = some (.int .u8 (x.kind : Int)) ∧ w'.cell? ⟨n0, 1, none⟩ = some (.string ⟨x.text.toArray⟩) ∧ w'.cell? ⟨n0, 2, none⟩ = some (.string ⟨x.sub.toArray⟩) ∧ w'.cell? ⟨n0, 3, none⟩ = some (.string ⟨x.see.toArray⟩) ∧ w'.cell? ⟨n0, 4, none⟩ = some (.slice Ak kn ck))) (by kernel_rfl) ?_ (fun hHeld0 => ?_)
      · (try dsimp only)
        refine cells5 (t := 32) ?_
        repeat (first | with_reducible exact hX1 | with_reducible exact hx2 | with_reducible refine Holds.far ?_ hxgg _ | with_reducible refine Holds.far ?_ hxb _ | with_reducible refine Holds.alloc ?_ _ | with_reducible refine Holds.drew ?_)
      refine wpAnyH_take (i := 0) (oi := ⟨some 66, _, _, _, _, _⟩) (v := ?_) rfl (by kernel_rfl) (by kernel_rfl) (by kernel_rfl) (fun _ _ _ h => h) (Or.inl ⟨by kernel_rfl, ?_⟩) (by assumption) ?_
      rotate_left
      · (intro w hSw; (try dsimp only at hSw); go_simp; (first | done | with_reducible rfl))
      (try simp only [Act.put, List.setIfInBounds_toArray, List.set_cons_zero, List.set_cons_succ])
      refine wpAnyH_take (i := 1) (oi := ⟨some 67, _, _, _, _, _⟩) (v := ?_) rfl (by kernel_rfl) (by kernel_rfl) (by kernel_rfl) (fun _ _ _ h => h) (Or.inl ⟨by kernel_rfl, ?_⟩) (by assumption) ?_
      rotate_left
      · (intro w hSw; (try dsimp only at hSw); go_simp; (first | done | with_reducible rfl))
      (try simp only [Act.put, List.setIfInBounds_toArray, List.set_cons_zero, List.set_cons_succ])
      refine wpAnyH_take (i := 3) (oi := ⟨some 69, _, _, _, _, _⟩) (v := ?_) rfl (by kernel_rfl) (by kernel_rfl) (by kernel_rfl) (fun _ _ _ h => h) (Or.inl ⟨by kernel_rfl, ?_⟩) (by assumption) ?_
      rotate_left
      · (intro w hSw; (try dsimp only at hSw); go_simp; (first | done | with_reducible rfl))
      (try simp only [Act.put, List.setIfInBounds_toArray, List.set_cons_zero, List.set_cons_succ])
      refine wpAnyH_ready (rs := [2, 5]) (by kernel_rfl) (by simp) ?_
      refine AllReadyH.cons (o := ⟨some 68, _, _, _, _, _⟩) rfl (fun K hK => ?_) ?_
      · skip
        go_simp
        refine hK.out _ _ ?_ (fun hHeld1 => ?_)
        · (try dsimp only)
          refine cells5 (t := 32) ?_
          repeat (first | with_reducible exact hX1 | with_reducible exact hx2 | with_reducible refine Holds.far ?_ hxgg _ | with_reducible refine Holds.far ?_ hxb _ | with_reducible refine Holds.alloc ?_ _ | with_reducible refine Holds.drew ?_)
        clear hK K hHeld0
        (try simp only [Act.put, List.setIfInBounds_toArray, List.set_cons_zero, List.set_cons_succ])
        refine wpAnyH_take (i := 4) (oi := ⟨some 70, _, _, _, _, _⟩) (v := ?_) rfl (by kernel_rfl) (by kernel_rfl) (by kernel_rfl) (fun _ _ _ h => h) (Or.inl ⟨by kernel_rfl, ?_⟩) (by assumption) ?_
        rotate_left
        · (intro w hSw; (try dsimp only at hSw); go_simp; (first | done | with_reducible rfl))
        (try simp only [Act.put, List.setIfInBounds_toArray, List.set_cons_zero, List.set_cons_succ])
        refine wpAnyH_ready (rs := [5]) (by kernel_rfl) (by simp) ?_
        refine AllReadyH.cons (o := ⟨some 71, _, _, _, _, _⟩) rfl (fun K hK => ?_) AllReadyH.nil
        go_simp
        refine hK.out _ _ ?_ (fun hHeld2 => ?_)
        · (try dsimp only)
          refine cells5 (t := 32) ?_
          repeat (first | with_reducible exact hX1 | with_reducible exact hx2 | with_reducible refine Holds.far ?_ hxgg _ | with_reducible refine Holds.far ?_ hxb _ | with_reducible refine Holds.alloc ?_ _ | with_reducible refine Holds.drew ?_)
        clear hK K hHeld1
        (try simp only [Act.put, List.setIfInBounds_toArray, List.set_cons_zero, List.set_cons_succ])
        refine wpAnyH_ready (rs := [6]) (by kernel_rfl) (by simp) ?_
        refine AllReadyH.cons (o := ⟨some 72, _, _, _, _, _⟩) rfl (fun K hK => ?_) AllReadyH.nil
        refine step_append_lies _ (by rfl) _ _ _ (by rfl) B 32 i0 _ 5 80 Tryz.underlying22 hi0' hz0 hz1 hz2 rfl (by omega) (.slice (some ⟨g5, 0, none⟩) (p + 1) cs') (p + 1) (rowCells l kvs) (by rfl) ((hso.alloc _).drew)
          ⟨W1.heap.size, 0, none⟩ 1 1 [.int .u8 0, .string ⟨#[]⟩, .string ⟨#[]⟩, .string ⟨#[]⟩, .slice none 0 0] (by rfl) (by rfl) (World.news_of_block (cs := #[.int .u8 0, .string ⟨#[]⟩, .string ⟨#[]⟩, .string ⟨#[]⟩, .slice none 0 0]) (t := 32) (fr := (0, 0)) (heap_alloc_new W1 _)) (by simp [Value.oneCell'])
          (by omega) (by unfold maxLen; omega) (by omega) (by simp; omega) (W1.heap.size + 1) (by simp) ?_
        intro gg cap1 w2 hown1 hgrow hat hlt2
        have hggb : gg ≠ ob := fun e => by
          rcases hat with h | h
          · exact hbs (h.trans (by rw [e]))
          · omega
        have hbgg : ob ≠ gg := fun e => hggb e.symm
        have hxgg : n0 ≠ gg := fun e => by
          rcases hat with h | h
          · exact hxs1 (h.trans (by rw [e]))
          · omega
        have hch1 := Chg.grown hgrow
        have hh1 := hch1.holds (fun h => hbs h.symm) ((ho1.alloc _).drew)
        have hx2 := hch1.holds (fun h => hxs1 h.symm) ((hX1.alloc _).drew)
        have k1 := (hh1.cell (n * 4 + 3)).trans HCS.out
        have k2 := hh1.free (n * 4 + 3)
        have z0 := hown1.cellAt ((p + 1) * 5) (by omega)
        have z1 := hown1.cellAt ((p + 1) * 5 + 1) (by omega)
        have z2 := hown1.cellAt ((p + 1) * 5 + 2) (by omega)
        have z3 := hown1.cellAt ((p + 1) * 5 + 3) (by omega)
        have z4 := hown1.cellAt ((p + 1) * 5 + 4) (by omega)
        have y0 := hown1.frozenAt ((p + 1) * 5)
        have y1 := hown1.frozenAt ((p + 1) * 5 + 1)
        have y2 := hown1.frozenAt ((p + 1) * 5 + 2)
        have y3 := hown1.frozenAt ((p + 1) * 5 + 3)
        have y4 := hown1.frozenAt ((p + 1) * 5 + 4)
        rw [hrc0.out] at z0
        rw [hrc1.out] at z1
        rw [hrc2.out] at z2
        rw [hrc3.out] at z3
        rw [hrc4.out] at z4
        have HOWN := Lib.hid hown1
        have HAT := Lib.hid hat
        have hggo : (Value.slice (some ⟨gg, 0, none⟩) ((p + 1) + 1) cap1).ownBlock ≠ some ob := fun e => hggb (by simpa [Value.ownBlock] using e)
        have HC0 : Hid (Chg W1 w2 (fun k => k = ob ∨ (Value.slice (some ⟨g5, 0, none⟩) (p + 1) cs').ownBlock = some k)) := (((Chg.refl W1 _).alloc _).drew).trans hch1 (fun k _ h => Or.inr h.symm)
        have HTG : Hid (∀ k, k < W1.heap.size → k = gg → (k = ob ∨ (Value.slice (some ⟨g5, 0, none⟩) (p + 1) cs').ownBlock = some k)) := fun k hk e => by
          subst e
          rcases hat with h | h
          · exact Or.inr h
          · omega
        have HTB : Hid (∀ k, k < W1.heap.size → k = ob → (k = ob ∨ (Value.slice (some ⟨g5, 0, none⟩) (p + 1) cs').ownBlock = some k)) := fun k _ e => Or.inl e
        clear hown1 hat hch1 hgrow
        refine hK.out _ _ ?_ (fun hHeld3 => ?_)
        · (try dsimp only)
          refine cells5 (t := 32) ?_
          repeat (first | with_reducible exact hX1 | with_reducible exact hx2 | with_reducible refine Holds.far ?_ hxgg _ | with_reducible refine Holds.far ?_ hxb _ | with_reducible refine Holds.alloc ?_ _ | with_reducible refine Holds.drew ?_)
        clear hK K hHeld2
        (try simp only [Act.put, List.setIfInBounds_toArray, List.set_cons_zero, List.set_cons_succ])
        refine wpAnyH_take (i := 7) (oi := ⟨some 73, _, _, _, _, _⟩) (v := ?_) rfl (by kernel_rfl) (by kernel_rfl) (by kernel_rfl) (fun _ _ _ h => h) (Or.inl ⟨by kernel_rfl, ?_⟩) (by assumption) ?_
        rotate_left
        · (intro w hSw; (try dsimp only at hSw); go_simp; (first | done | with_reducible rfl))
        (try simp only [Act.put, List.setIfInBounds_toArray, List.set_cons_zero, List.set_cons_succ])
        refine wpAnyH_take (i := 9) (oi := ⟨some 74, _, _, _, _, _⟩) (v := ?_) rfl (by kernel_rfl) (by kernel_rfl) (by kernel_rfl) (fun _ _ _ h => h) (Or.inl ⟨by kernel_rfl, ?_⟩) (by assumption) ?_
        rotate_left
        · (intro w hSw; (try dsimp only at hSw); go_simp; (first | done | with_reducible rfl))
        (try simp only [Act.put, List.setIfInBounds_toArray, List.set_cons_zero, List.set_cons_succ])
        refine wpAnyH_ready (rs := [8, 10]) (by kernel_rfl) (by simp) ?_
        refine AllReadyH.cons rfl (fun K hK => ?_) ?_
        · skip
          go_simp
          refine hK.out _ _ ?_ (fun hHeld4 => ?_)
          · (try dsimp only)
            refine cells5 (t := 32) ?_
            repeat (first | with_reducible exact hX1 | with_reducible exact hx2 | with_reducible refine Holds.far ?_ hxgg _ | with_reducible refine Holds.far ?_ hxb _ | with_reducible refine Holds.alloc ?_ _ | with_reducible refine Holds.drew ?_)
          clear hK K hHeld3
          (try simp only [Act.put, List.setIfInBounds_toArray, List.set_cons_zero, List.set_cons_succ])
          refine wpAnyH_ready (rs := [10]) (by kernel_rfl) (by simp) ?_
          refine AllReadyH.cons rfl (fun K hK => ?_) AllReadyH.nil
          go_simp
          refine hK.out _ _ ?_ (fun hHeld5 => ?_)
          · (try dsimp only)
            refine cells5 (t := 32) ?_
            repeat (first | with_reducible exact hX1 | with_reducible exact hx2 | with_reducible refine Holds.far ?_ hxgg _ | with_reducible refine Holds.far ?_ hxb _ | with_reducible refine Holds.alloc ?_ _ | with_reducible refine Holds.drew ?_)
          clear hK K hHeld4
          (try simp only [Act.put, List.setIfInBounds_toArray, List.set_cons_zero, List.set_cons_succ])
          refine wpAnyH_done (by kernel_rfl) ?_ _
          clear hHeld5
          go_wp2
          go_end0
          refine ⟨rfl, .slice (some ⟨gg, 0, none⟩) ((p + 1) + 1) cap1, ?_, ?_, ?_, ?_⟩
          · repeat (first | with_reducible exact hh1 | with_reducible refine Holds.set ?_ _ _ | with_reducible refine Holds.far ?_ hbgg _)
          · rw [HADD.out]
            refine added_row (z0 := .int .u8 0) (z1 := .string ⟨#[]⟩) (z2 := .string ⟨#[]⟩) (z3 := .string ⟨#[]⟩) (z4 := .slice none 0 0) (kv := .slice Ak kn ck) (S := fun k => k = ob ∨ (Value.slice (some ⟨g5, 0, none⟩) (p + 1) cs').ownBlock = some k) HKL.out (by rw [HM.out]; exact HRL.out) HKF.out HKX.out ?_ (fun k hk h => by
              have := HFF.out k hk
              rcases h with h | h
              · exact this.2.1 h
              · exact this.2.2 h) ?_
            · repeat (first | with_reducible exact HC0.out | with_reducible refine Chg.step ?_ HTG.out | with_reducible refine Chg.step ?_ HTB.out)
            · rw [HM.out]
              repeat (first | with_reducible refine (World.ownsRow.stored ?_ _ _).1 | with_reducible refine ownsRow_setCell_other ?_ hggo _)
              exact HOWN.out
          · refine Chg.trans (S := fun k => k = ob ∨ (Value.slice (some ⟨g5, 0, none⟩) (p + 1) cs').ownBlock = some k) (T := fun k => k = ob ∨ (Value.slice (some ⟨g5, 0, none⟩) (p + 1) cs').ownBlock = some k) (HCQ.out.mono (fun _ _ h => h.elim)) ?_ (fun k hk h => h)
            repeat (first | with_reducible exact HC0.out | with_reducible refine Chg.step ?_ HTG.out | with_reducible refine Chg.step ?_ HTB.out)
          · intro k hk
            simp only [Value.ownBlock, Option.some.injEq] at hk
            subst hk
            rcases HAT.out with h | h
            · exact .inl h
            · exact .inr (by have := HW0.out.2; omega)
        refine AllReadyH.cons rfl (fun K hK => ?_) AllReadyH.nil
        go_simp
        refine hK.out _ _ ?_ (fun hHeld4 => ?_)
        · (try dsimp only)
          refine cells5 (t := 32) ?_
          repeat (first | with_reducible exact hX1 | with_reducible exact hx2 | with_reducible refine Holds.far ?_ hxgg _ | with_reducible refine Holds.far ?_ hxb _ | with_reducible refine Holds.alloc ?_ _ | with_reducible refine Holds.drew ?_)
        clear hK K hHeld3
        (try simp only [Act.put, List.setIfInBounds_toArray, List.set_cons_zero, List.set_cons_succ])
        refine wpAnyH_ready (rs := [8]) (by kernel_rfl) (by simp) ?_
        refine AllReadyH.cons rfl (fun K hK => ?_) AllReadyH.nil
        go_simp
        refine hK.out _ _ ?_ (fun hHeld5 => ?_)
        · (try dsimp only)
          refine cells5 (t := 32) ?_
          repeat (first | with_reducible exact hX1 | with_reducible exact hx2 | with_reducible refine Holds.far ?_ hxgg _ | with_reducible refine Holds.far ?_ hxb _ | with_reducible refine Holds.alloc ?_ _ | with_reducible refine Holds.drew ?_)
        clear hK K hHeld4
        (try simp only [Act.put, List.setIfInBounds_toArray, List.set_cons_zero, List.set_cons_succ])
        refine wpAnyH_done (by kernel_rfl) ?_ _
        clear hHeld5
        go_wp2
        go_end0
        refine ⟨rfl, .slice (some ⟨gg, 0, none⟩) ((p + 1) + 1) cap1, ?_, ?_, ?_, ?_⟩
        · repeat (first | with_reducible exact hh1 | with_reducible refine Holds.set ?_ _ _ | with_reducible refine Holds.far ?_ hbgg _)
        · rw [HADD.out]
          refine added_row (z0 := .int .u8 0) (z1 := .string ⟨#[]⟩) (z2 := .string ⟨#[]⟩) (z3 := .string ⟨#[]⟩) (z4 := .slice none 0 0) (kv := .slice Ak kn ck) (S := fun k => k = ob ∨ (Value.slice (some ⟨g5, 0, none⟩) (p + 1) cs').ownBlock = some k) HKL.out (by rw [HM.out]; exact HRL.out) HKF.out HKX.out ?_ (fun k hk h => by
            have := HFF.out k hk
            rcases h with h | h
            · exact this.2.1 h
            · exact this.2.2 h) ?_
          · repeat (first | with_reducible exact HC0.out | with_reducible refine Chg.step ?_ HTG.out | with_reducible refine Chg.step ?_ HTB.out)
          · rw [HM.out]
            repeat (first | with_reducible refine (World.ownsRow.stored ?_ _ _).1 | with_reducible refine ownsRow_setCell_other ?_ hggo _)
            exact HOWN.out
        · refine Chg.trans (S := fun k => k = ob ∨ (Value.slice (some ⟨g5, 0, none⟩) (p + 1) cs').ownBlock = some k) (T := fun k => k = ob ∨ (Value.slice (some ⟨g5, 0, none⟩) (p + 1) cs').ownBlock = some k) (HCQ.out.mono (fun _ _ h => h.elim)) ?_ (fun k hk h => h)
          repeat (first | with_reducible exact HC0.out | with_reducible refine Chg.step ?_ HTG.out | with_reducible refine Chg.step ?_ HTB.out)
        · intro k hk
          simp only [Value.ownBlock, Option.some.injEq] at hk
          subst hk
          rcases HAT.out with h | h
          · exact .inl h
          · exact .inr (by have := HW0.out.2; omega)
      refine AllReadyH.cons (o := ⟨some 71, _, _, _, _, _⟩) rfl (fun K hK => ?_) AllReadyH.nil
      go_simp
      refine hK.out _ _ ?_ (fun hHeld1 => ?_)
      · (try dsimp only)
        refine cells5 (t := 32) ?_
        repeat (first | with_reducible exact hX1 | with_reducible exact hx2 | with_reducible refine Holds.far ?_ hxgg _ | with_reducible refine Holds.far ?_ hxb _ | with_reducible refine Holds.alloc ?_ _ | with_reducible refine Holds.drew ?_)
      clear hK K hHeld0
      (try simp only [Act.put, List.setIfInBounds_toArray, List.set_cons_zero, List.set_cons_succ])
      refine wpAnyH_ready (rs := [2]) (by kernel_rfl) (by simp) ?_
      refine AllReadyH.cons (o := ⟨some 68, _, _, _, _, _⟩) rfl (fun K hK => ?_) AllReadyH.nil
      go_simp
      refine hK.out _ _ ?_ (fun hHeld2 => ?_)
      · (try dsimp only)
        refine cells5 (t := 32) ?_
        repeat (first | with_reducible exact hX1 | with_reducible exact hx2 | with_reducible refine Holds.far ?_ hxgg _ | with_reducible refine Holds.far ?_ hxb _ | with_reducible refine Holds.alloc ?_ _ | with_reducible refine Holds.drew ?_)
      clear hK K hHeld1
      (try simp only [Act.put, List.setIfInBounds_toArray, List.set_cons_zero, List.set_cons_succ])
      refine wpAnyH_take (i := 4) (oi := ⟨some 70, _, _, _, _, _⟩) (v := ?_) rfl (by kernel_rfl) (by kernel_rfl) (by kernel_rfl) (fun _ _ _ h => h) (Or.inl ⟨by kernel_rfl, ?_⟩) (by assumption) ?_
      rotate_left
      · (intro w hSw; (try dsimp only at hSw); go_simp; (first | done | with_reducible rfl))
      (try simp only [Act.put, List.setIfInBounds_toArray, List.set_cons_zero, List.set_cons_succ])
      refine wpAnyH_ready (rs := [6]) (by kernel_rfl) (by simp) ?_
      refine AllReadyH.cons (o := ⟨some 72, _, _, _, _, _⟩) rfl (fun K hK => ?_) AllReadyH.nil
      refine step_append_lies _ (by rfl) _ _ _ (by rfl) B 32 i0 _ 5 80 Tryz.underlying22 hi0' hz0 hz1 hz2 rfl (by omega) (.slice (some ⟨g5, 0, none⟩) (p + 1) cs') (p + 1) (rowCells l kvs) (by rfl) ((hso.alloc _).drew)
        ⟨W1.heap.size, 0, none⟩ 1 1 [.int .u8 0, .string ⟨#[]⟩, .string ⟨#[]⟩, .string ⟨#[]⟩, .slice none 0 0] (by rfl) (by rfl) (World.news_of_block (cs := #[.int .u8 0, .string ⟨#[]⟩, .string ⟨#[]⟩, .string ⟨#[]⟩, .slice none 0 0]) (t := 32) (fr := (0, 0)) (heap_alloc_new W1 _)) (by simp [Value.oneCell'])
        (by omega) (by unfold maxLen; omega) (by omega) (by simp; omega) (W1.heap.size + 1) (by simp) ?_
      intro gg cap1 w2 hown1 hgrow hat hlt2
      have hggb : gg ≠ ob := fun e => by
        rcases hat with h | h
        · exact hbs (h.trans (by rw [e]))
        · omega
      have hbgg : ob ≠ gg := fun e => hggb e.symm
      have hxgg : n0 ≠ gg := fun e => by
        rcases hat with h | h
        · exact hxs1 (h.trans (by rw [e]))
        · omega
      have hch1 := Chg.grown hgrow
      have hh1 := hch1.holds (fun h => hbs h.symm) ((ho1.alloc _).drew)
      have hx2 := hch1.holds (fun h => hxs1 h.symm) ((hX1.alloc _).drew)
      have k1 := (hh1.cell (n * 4 + 3)).trans HCS.out
      have k2 := hh1.free (n * 4 + 3)
      have z0 := hown1.cellAt ((p + 1) * 5) (by omega)
      have z1 := hown1.cellAt ((p + 1) * 5 + 1) (by omega)
      have z2 := hown1.cellAt ((p + 1) * 5 + 2) (by omega)
      have z3 := hown1.cellAt ((p + 1) * 5 + 3) (by omega)
      have z4 := hown1.cellAt ((p + 1) * 5 + 4) (by omega)
      have y0 := hown1.frozenAt ((p + 1) * 5)
      have y1 := hown1.frozenAt ((p + 1) * 5 + 1)
      have y2 := hown1.frozenAt ((p + 1) * 5 + 2)
      have y3 := hown1.frozenAt ((p + 1) * 5 + 3)
      have y4 := hown1.frozenAt ((p + 1) * 5 + 4)
      rw [hrc0.out] at z0
      rw [hrc1.out] at z1
      rw [hrc2.out] at z2
      rw [hrc3.out] at z3
      rw [hrc4.out] at z4
      have HOWN := Lib.hid hown1
      have HAT := Lib.hid hat
      have hggo : (Value.slice (some ⟨gg, 0, none⟩) ((p + 1) + 1) cap1).ownBlock ≠ some ob := fun e => hggb (by simpa [Value.ownBlock] using e)
      have HC0 : Hid (Chg W1 w2 (fun k => k = ob ∨ (Value.slice (some ⟨g5, 0, none⟩) (p + 1) cs').ownBlock = some k)) := (((Chg.refl W1 _).alloc _).drew).trans hch1 (fun k _ h => Or.inr h.symm)
      have HTG : Hid (∀ k, k < W1.heap.size → k = gg → (k = ob ∨ (Value.slice (some ⟨g5, 0, none⟩) (p + 1) cs').ownBlock = some k)) := fun k hk e => by
        subst e
        rcases hat with h | h
        · exact Or.inr h
        · omega
      have HTB : Hid (∀ k, k < W1.heap.size → k = ob → (k = ob ∨ (Value.slice (some ⟨g5, 0, none⟩) (p + 1) cs').ownBlock = some k)) := fun k _ e => Or.inl e
      clear hown1 hat hch1 hgrow
      refine hK.out _ _ ?_ (fun hHeld3 => ?_)
      · (try dsimp only)
        refine cells5 (t := 32) ?_
        repeat (first | with_reducible exact hX1 | with_reducible exact hx2 | with_reducible refine Holds.far ?_ hxgg _ | with_reducible refine Holds.far ?_ hxb _ | with_reducible refine Holds.alloc ?_ _ | with_reducible refine Holds.drew ?_)
      clear hK K hHeld2
      (try simp only [Act.put, List.setIfInBounds_toArray, List.set_cons_zero, List.set_cons_succ])
      refine wpAnyH_take (i := 7) (oi := ⟨some 73, _, _, _, _, _⟩) (v := ?_) rfl (by kernel_rfl) (by kernel_rfl) (by kernel_rfl) (fun _ _ _ h => h) (Or.inl ⟨by kernel_rfl, ?_⟩) (by assumption) ?_
      rotate_left
      · (intro w hSw; (try dsimp only at hSw); go_simp; (first | done | with_reducible rfl))
      (try simp only [Act.put, List.setIfInBounds_toArray, List.set_cons_zero, List.set_cons_succ])
      refine wpAnyH_take (i := 9) (oi := ⟨some 74, _, _, _, _, _⟩) (v := ?_) rfl (by kernel_rfl) (by kernel_rfl) (by kernel_rfl) (fun _ _ _ h => h) (Or.inl ⟨by kernel_rfl, ?_⟩) (by assumption) ?_
      rotate_left
      · (intro w hSw; (try dsimp only at hSw); go_simp; (first | done | with_reducible rfl))
      (try simp only [Act.put, List.setIfInBounds_toArray, List.set_cons_zero, List.set_cons_succ])
      refine wpAnyH_ready (rs := [8, 10]) (by kernel_rfl) (by simp) ?_
      refine AllReadyH.cons rfl (fun K hK => ?_) ?_
      · skip
        go_simp
        refine hK.out _ _ ?_ (fun hHeld4 => ?_)
        · (try dsimp only)
          refine cells5 (t := 32) ?_
          repeat (first | with_reducible exact hX1 | with_reducible exact hx2 | with_reducible refine Holds.far ?_ hxgg _ | with_reducible refine Holds.far ?_ hxb _ | with_reducible refine Holds.alloc ?_ _ | with_reducible refine Holds.drew ?_)
        clear hK K hHeld3
        (try simp only [Act.put, List.setIfInBounds_toArray, List.set_cons_zero, List.set_cons_succ])
        refine wpAnyH_ready (rs := [10]) (by kernel_rfl) (by simp) ?_
        refine AllReadyH.cons rfl (fun K hK => ?_) AllReadyH.nil
        go_simp
        refine hK.out _ _ ?_ (fun hHeld5 => ?_)
        · (try dsimp only)
          refine cells5 (t := 32) ?_
          repeat (first | with_reducible exact hX1 | with_reducible exact hx2 | with_reducible refine Holds.far ?_ hxgg _ | with_reducible refine Holds.far ?_ hxb _ | with_reducible refine Holds.alloc ?_ _ | with_reducible refine Holds.drew ?_)
        clear hK K hHeld4
        (try simp only [Act.put, List.setIfInBounds_toArray, List.set_cons_zero, List.set_cons_succ])
        refine wpAnyH_done (by kernel_rfl) ?_ _
        clear hHeld5
        go_wp2
        go_end0
        refine ⟨rfl, .slice (some ⟨gg, 0, none⟩) ((p + 1) + 1) cap1, ?_, ?_, ?_, ?_⟩
        · repeat (first | with_reducible exact hh1 | with_reducible refine Holds.set ?_ _ _ | with_reducible refine Holds.far ?_ hbgg _)
        · rw [HADD.out]
          refine added_row (z0 := .int .u8 0) (z1 := .string ⟨#[]⟩) (z2 := .string ⟨#[]⟩) (z3 := .string ⟨#[]⟩) (z4 := .slice none 0 0) (kv := .slice Ak kn ck) (S := fun k => k = ob ∨ (Value.slice (some ⟨g5, 0, none⟩) (p + 1) cs').ownBlock = some k) HKL.out (by rw [HM.out]; exact HRL.out) HKF.out HKX.out ?_ (fun k hk h => by
            have := HFF.out k hk
            rcases h with h | h
            · exact this.2.1 h
            · exact this.2.2 h) ?_
          · repeat (first | with_reducible exact HC0.out | with_reducible refine Chg.step ?_ HTG.out | with_reducible refine Chg.step ?_ HTB.out)
          · rw [HM.out]
            repeat (first | with_reducible refine (World.ownsRow.stored ?_ _ _).1 | with_reducible refine ownsRow_setCell_other ?_ hggo _)
            exact HOWN.out
        · refine Chg.trans (S := fun k => k = ob ∨ (Value.slice (some ⟨g5, 0, none⟩) (p + 1) cs').ownBlock = some k) (T := fun k => k = ob ∨ (Value.slice (some ⟨g5, 0, none⟩) (p + 1) cs').ownBlock = some k) (HCQ.out.mono (fun _ _ h => h.elim)) ?_ (fun k hk h => h)
          repeat (first | with_reducible exact HC0.out | with_reducible refine Chg.step ?_ HTG.out | with_reducible refine Chg.step ?_ HTB.out)
        · intro k hk
          simp only [Value.ownBlock, Option.some.injEq] at hk
          subst hk
          rcases HAT.out with h | h
          · exact .inl h
          · exact .inr (by have := HW0.out.2; omega)
      refine AllReadyH.cons rfl (fun K hK => ?_) AllReadyH.nil
      go_simp
      refine hK.out _ _ ?_ (fun hHeld4 => ?_)
      · (try dsimp only)
        refine cells5 (t := 32) ?_
        repeat (first | with_reducible exact hX1 | with_reducible exact hx2 | with_reducible refine Holds.far ?_ hxgg _ | with_reducible refine Holds.far ?_ hxb _ | with_reducible refine Holds.alloc ?_ _ | with_reducible refine Holds.drew ?_)
      clear hK K hHeld3
      (try simp only [Act.put, List.setIfInBounds_toArray, List.set_cons_zero, List.set_cons_succ])
      refine wpAnyH_ready (rs := [8]) (by kernel_rfl) (by simp) ?_
      refine AllReadyH.cons rfl (fun K hK => ?_) AllReadyH.nil
      go_simp
      refine hK.out _ _ ?_ (fun hHeld5 => ?_)
      · (try dsimp only)
        refine cells5 (t := 32) ?_
        repeat (first | with_reducible exact hX1 | with_reducible exact hx2 | with_reducible refine Holds.far ?_ hxgg _ | with_reducible refine Holds.far ?_ hxb _ | with_reducible refine Holds.alloc ?_ _ | with_reducible refine Holds.drew ?_)
      clear hK K hHeld4
      (try simp only [Act.put, List.setIfInBounds_toArray, List.set_cons_zero, List.set_cons_succ])
      refine wpAnyH_done (by kernel_rfl) ?_ _
      clear hHeld5
      go_wp2
      go_end0
      refine ⟨rfl, .slice (some ⟨gg, 0, none⟩) ((p + 1) + 1) cap1, ?_, ?_, ?_, ?_⟩
      · repeat (first | with_reducible exact hh1 | with_reducible refine Holds.set ?_ _ _ | with_reducible refine Holds.far ?_ hbgg _)
      · rw [HADD.out]
        refine added_row (z0 := .int .u8 0) (z1 := .string ⟨#[]⟩) (z2 := .string ⟨#[]⟩) (z3 := .string ⟨#[]⟩) (z4 := .slice none 0 0) (kv := .slice Ak kn ck) (S := fun k => k = ob ∨ (Value.slice (some ⟨g5, 0, none⟩) (p + 1) cs').ownBlock = some k) HKL.out (by rw [HM.out]; exact HRL.out) HKF.out HKX.out ?_ (fun k hk h => by
          have := HFF.out k hk
          rcases h with h | h
          · exact this.2.1 h
          · exact this.2.2 h) ?_
        · repeat (first | with_reducible exact HC0.out | with_reducible refine Chg.step ?_ HTG.out | with_reducible refine Chg.step ?_ HTB.out)
        · rw [HM.out]
          repeat (first | with_reducible refine (World.ownsRow.stored ?_ _ _).1 | with_reducible refine ownsRow_setCell_other ?_ hggo _)
          exact HOWN.out
      · refine Chg.trans (S := fun k => k = ob ∨ (Value.slice (some ⟨g5, 0, none⟩) (p + 1) cs').ownBlock = some k) (T := fun k => k = ob ∨ (Value.slice (some ⟨g5, 0, none⟩) (p + 1) cs').ownBlock = some k) (HCQ.out.mono (fun _ _ h => h.elim)) ?_ (fun k hk h => h)
        repeat (first | with_reducible exact HC0.out | with_reducible refine Chg.step ?_ HTG.out | with_reducible refine Chg.step ?_ HTB.out)
      · intro k hk
        simp only [Value.ownBlock, Option.some.injEq] at hk
        subst hk
        rcases HAT.out with h | h
        · exact .inl h
        · exact .inr (by have := HW0.out.2; omega)
    · have hadd : putQ l x = l.set l0.length { y with text := y.text ++ x.text } := by
        unfold putQ
        rw [if_neg hA, hl0, List.concat_eq_append, List.getLast?_append]
        simp only [List.getLast?_singleton, Option.some_or, hyk, hk, and_self, if_true]
        rw [List.dropLast_concat, List.set_append_right _ _ (Nat.le_refl _), Nat.sub_self]
        rfl
      have hyk0 : ((y.kind : Int) == 0) = true := by simp [hyk]
      have hyt := hlt y (by rw [hl0, List.concat_eq_append]; simp) hyk
      obtain ⟨p, hp5⟩ : ∃ p, l0.length = p := ⟨_, rfl⟩
      have hm : l.length = p + 1 := by rw [hl0, List.concat_eq_append, List.length_append, hp5]; rfl
      have hy : l[p]? = some y := by rw [hl0, List.concat_eq_append, List.getElem?_append_right (by omega), hp5, Nat.sub_self]; rfl
      have hsp0 := hsp
      rw [hm] at hsp0 hc hbs hps hF hl hcs' hsl ⊢
      have HM := Lib.hid hm
      have HY := Lib.hid (And.intro hl0 (And.intro hp5 hy))
      rw [hp5] at hadd
      have HADD := Lib.hid hadd
      clear hm hA hsp hl0 hp5 hy hadd
      clear hk hyk
      go_enter Tryz.func65, Tryz.ntmps65
      go_wp2
      (try rw [hW0])
      (try rw [hn0])
      have HW0 := Lib.hid (And.intro hW0 hn0)
      clear hW0 hn0
      go_quiet (fail)
      obtain ⟨W1, hW1⟩ : ∃ W1, W0.drewN nq = W1 := ⟨_, rfl⟩
      rw [hW1]
      have hcq : Chg w W1 (fun _ => False) := hW1 ▸ hc1.drewN nq
      have hsq : W1.heap.size = n0 + 1 := by rw [← hW1]; exact hsz0
      have hX1 : Holds W1 n0 32 #[.int .u8 (x.kind : Int), .string ⟨x.text.toArray⟩, .string ⟨x.sub.toArray⟩, .string ⟨x.see.toArray⟩, .slice Ak kn ck] := hW1 ▸ hX
      have HCQ := Lib.hid hcq
      have ho1 := hcq.holds (fun h => h) ho
      have q1 := (ho1.cell (n * 4 + 3)).trans hc
      have x0 := hX1.cell 0
      have x1 := hX1.cell 1
      simp at x0 x1
      have HSQ := Lib.hid hsq
      have hsg : n0 < W1.heap.size := by omega
      clear hW1 hc1 hX p1 hp0 ho0 hp hsz0 hsq
      have hsp1 := hsp0.chg hcq (fun _ h => h) (fun _ _ h => h) (fun _ _ h => h)
      clear hsp0
      obtain ⟨kvs, hkl, hso, hkf⟩ := hsp1
      have hkx1 : Forest W1 F (.slice Ak kn ck) x.kids := HKN.out ▸ hxF.chg hcq (fun _ h => h) (fun _ _ h => h)
      rw [HM.out] at hso
      obtain ⟨g5, rfl⟩ : ∃ g, As = some ⟨g, 0, none⟩ := by
        rcases hso.2 with ⟨hv, h0⟩ | ⟨g, cap', cur, hv, _⟩
        · omega
        · injection hv with e1
          exact ⟨g, e1⟩
      obtain ⟨ku, hku⟩ : ∃ ku, kvs[p]? = some ku := ⟨_, List.getElem?_eq_getElem (by have := HM.out; omega)⟩
      have hcell : ∀ i u, (spCells y ku)[i]? = some u → W1.cell? ⟨g5, p * 5 + i, none⟩ = some u := fun i u hu => by have h9 := hso.cells (g := g5) rfl _ u (rowCells_get HY.out.2.2 hku hu); rw [addr_addM, Nat.zero_add] at h9; exact h9
      have l0 := hcell 0 _ rfl
      have l1 := hcell 1 _ rfl
      rw [Nat.add_zero] at l0
      unfold strV at l1
      clear hcell
      have y5 := hso.frozenAt (p * 5 + 1)
      have hgo : (Value.slice (some ⟨g5, 0, none⟩) (p + 1) cs').ownBlock ≠ some ob := hbs
      have hg5o : g5 ≠ ob := fun e => hbs (by rw [e]; rfl)
      have HSO := Lib.hid hso
      have HKF := Lib.hid hkf
      have HKL := Lib.hid hkl
      have HFF := Lib.hid hF
      have HO1 := Lib.hid ho1
      have HC := Lib.hid hc
      have hb0 : (0 : Int) ≤ (p : Int) := by omega
      have hb1 : (p : Int) < (p : Int) + 1 := by omega
      clear hkf hkl hF hso hc hlt hx hkx1 hi0 hi1 hcq ho1
      go_wp2
      go_region
      all_goals go_wp2
      have hob5 : ob ≠ g5 := fun e => hg5o e.symm
      have HS5 : Hid (∀ k, k < W1.heap.size → k = g5 → (k = ob ∨ (Value.slice (some ⟨g5, 0, none⟩) (p + 1) cs').ownBlock = some k)) := fun k _ e => .inr (by rw [e]; rfl)
      all_goals
        (try simp only [Exit.inBlock, Exit.then])
        refine bodyPost_ret (results_none rfl _ _ _) rfl ?_
        refine ⟨rfl, .slice (some ⟨g5, 0, none⟩) (p + 1) cs', ?_, ?_, ?_, fun k hk => .inl hk⟩
        · rw [set_same HC.out]
          repeat (first | with_reducible exact HO1.out | with_reducible refine Holds.far ?_ hob5 _ | with_reducible refine Holds.drew ?_)
        · rw [HADD.out]
          have hlen : (l.set p { y with text := y.text ++ x.text }).length = p + 1 := by rw [List.length_set, HM.out]
          have hCq : ∀ u, Chg W1 (W1.drew.setCell ⟨g5, p * 5 + 1, none⟩ u) (fun k => k = g5) := fun u => ((Chg.refl W1 (fun _ => False)).drew.mono (fun _ _ h => h.elim)).trans (Chg.set W1.drew ⟨g5, p * 5 + 1, none⟩ u) (fun _ _ h => h)
          refine ⟨kvs, by rw [hlen, ← HM.out]; exact HKL.out, ?_, fun j z kz hz hkz => ?_⟩
          · rw [hlen, rowS_text _ HY.out.2.2 HKL.out]
            unfold strV
            rw [← ba_app]
            exact (World.ownsRow.stored HSO.out.drew _ _).1
          · have hz2 : ∃ z', l[j]? = some z' ∧ z'.kids = z.kids := by
              by_cases hj : j = p
              · subst hj
                rw [List.getElem?_set_self (by rw [HM.out]; omega)] at hz
                injection hz with hz
                subst hz
                exact ⟨y, HY.out.2.2, rfl⟩
              · rw [List.getElem?_set_ne (by omega)] at hz
                exact ⟨z, hz, rfl⟩
            obtain ⟨z', hz', hk'⟩ := hz2
            rw [← hk']
            exact (HKF.out j z' kz hz' hkz).chg (hCq _) (fun _ h => h) (fun k hk e => (HFF.out k hk).2.2 (by rw [e]; rfl))
        · refine (HCQ.out.mono (T := fun k => k = ob ∨ (Value.slice (some ⟨g5, 0, none⟩) (p + 1) cs').ownBlock = some k) (fun _ _ h => h.elim)).trans ((Chg.refl W1 (fun _ => False)).drew.mono (fun _ _ h => h.elim) |>.trans (Chg.set W1.drew ⟨g5, p * 5 + 1, none⟩ _) (T := fun k => k = g5) (fun _ _ h => h)) (fun k _ e => .inr (by rw [e]; rfl))
end Go.Proofs.YtmdbhdhfdldegaaGreatDoor
namespace Go.Proofs.YtmdbhdhfdldegaaGreatDoor
open Go.RowKit Go.Bd
section
variable {w : World} {B : Nat} {col : Nat → Nat} {pb ob cap len : Nat} {s : ByteArray} {st : Pst} {i : Nat} {fv : Value} {gb : Nat} {cs : Array Value} {gn : List Bs}
theorem PSx.drewN (h : PSx Tryz.prog w B col pb ob cap len s st i fv gb cs gn) (n : Nat) : PSx Tryz.prog (w.drewN n) B col pb ob cap len s st i fv gb cs gn :=
  h.keep ((Chg.refl w (fun _ => False)).drewN n) (fun _ h => h.elim)
theorem top_any {n : Nat} (h : PSx Tryz.prog w B col pb ob cap (n + 1) s st i fv gb cs gn) (hn : n ≤ 1000) :
    Calls Tryz.prog 28 #[.pointer (some ⟨pb, 0, none⟩)] w fun e w' => e = .returned (.pointer (some ⟨ob, n * 5, none⟩)) ∧ ∃ k, w.drewN k = w' := by
  have c1 := h.hp.cell 1
  have e1 : IntKind.i64.wrap ((n : Int) + 1 - 1) = (n : Int) := by
    rw [show (n : Int) + 1 - 1 = n by omega]; exact IntWalk.i64_in _ (by omega)
  have e2 : ((n : Int) + 1 - 1) = (n : Int) := by omega
  have hi1 : n < n + 1 := by omega
  clear h
  go_enter Tryz.func28, Tryz.ntmps28
  go_wp2
  go_quiet (fail)
  go_wp2
  go_ret
  exact ⟨rfl, _, rfl⟩
theorem told_info : (Tryz.prog.info? 72).map (fun i => (i.zero, i.size, i.bytes)) = some (some (.agg #[.int .i64 0, .int .i64 0]), 2, 16) := by kernel_rfl
theorem frame_info : (Tryz.prog.info? 68).map (fun i => (i.zero, i.size, i.bytes)) = some (some (.agg #[.slice none 0 0, .slice none 0 0, .int .u8 0, .string ⟨#[]⟩, .int .i64 0]), 5, 80) := by kernel_rfl
theorem toldCells_snoc (l : List (Nat × Nat)) (a f : Nat) : toldCells (l ++ [(a, f)]) = toldCells l ++ [.int .i64 (a : Int), .int .i64 (f : Int)] := by simp [toldCells]
set_option maxRecDepth 100000 in
theorem tell_any (h : PSx Tryz.prog w B col pb ob cap len s st i fv gb cs gn) (a f : Nat) (hfl : st.faults.length ≤ 10000000) :
    Calls Tryz.prog 56 #[.pointer (some ⟨pb, 0, none⟩), .int .i64 (a : Int), .int .i64 (f : Int)] w fun e w' => e = .returned (.tuple #[]) ∧ ∃ col' fv', PSx Tryz.prog w' B col' pb ob cap len s (st.tell a f) i fv' gb cs gn ∧ Stay B w w' col col' := by
  have H := Lib.hid h
  have c2 := h.hp.cell 2
  have hpw := h.hp.lt
  have hB := h.hpB
  have hf := h.hf
  have hpf : fv.ownBlock ≠ some pb := fun e => by have h1 := h.cf _ e; have h2 := h.cp; omega
  clear h
  go_enter Tryz.func56, Tryz.ntmps56
  go_wp2_with (at_builtin; refine wpList_app_el _ rfl _ _ 58 rfl B 72 (.agg #[.int .i64 0, .int .i64 0]) 2 16 Tryz.underlying58 told_info rfl (by omega) _ st.faults.length (toldCells st.faults) rfl (hf.alloc _) _ 1 [.int .i64 (a : Int), .int .i64 (f : Int)] rfl rfl (Holds.new w _ _) (by simp [Value.oneCell']) (by omega) (by omega) (by simp; omega) ?_)
  intro v1 w1 ho1 hg1 hn1
  have hch1 := Chg.grown hg1
  have hp1 := hch1.holds (fun e => hpf e.symm) (H.out.hp.alloc (.cells #[.int .i64 (a : Int), .int .i64 (f : Int)] 72))
  have d2 := hp1.cell 2
  have d3 := hp1.free 2
  obtain ⟨A1, c1, rfl, hle⟩ := own_slice2 ho1
  have HN := Lib.hid hn1
  have HO := Lib.hid ho1
  clear hn1 ho1
  go_wp2
  go_end0
  refine ⟨rfl, ?_⟩
  have hnear : ∀ b, (Value.slice A1 (st.faults.length + 1) c1).ownBlock = some b → fv.ownBlock = some b ∨ w.heap.size ≤ b := fun b hb => by
    rcases HN.out.old b hb with h | h
    · exact .inl h
    · simp at h; exact .inr (by omega)
  have hch : Chg w (w1.setCell ⟨pb, 2, none⟩ (.slice A1 (st.faults.length + 1) c1)) (fun b => b = pb ∨ fv.ownBlock = some b) :=
    Chg.step (((Chg.refl w _).alloc _).trans hch1 (fun k _ h => Or.inr h.symm)) (fun k _ e => Or.inl e)
  have hpn := hp1.set 2 (.slice A1 (st.faults.length + 1) c1)
  have hfn : (w1.setCell ⟨pb, 2, none⟩ (.slice A1 (st.faults.length + 1) c1)).ownsRow B tT 2 (.slice A1 (st.faults.length + 1) c1) (st.faults ++ [(a, f)]).length (toldCells (st.faults ++ [(a, f)])) := by
    rw [toldCells_snoc, List.length_append]
    refine ownsRow_setCell_other HO.out (fun e => ?_) _
    rcases hnear _ e with h | h
    · exact hpf h
    · simp only at h; omega
  obtain ⟨col', h1, h2⟩ := H.out.faults hch (fun b hb => hb) hpn hfn hnear
  exact ⟨col', _, h1, h2⟩
theorem room_any (h : PSx Tryz.prog w B col pb ob cap len s st i fv gb cs gn) (hl : len = st.fs.length) (h1 : 1 ≤ len) (h2 : len ≤ 1000) :
    Calls Tryz.prog 54 #[.pointer (some ⟨pb, 0, none⟩)] w fun e w' => e = .returned (.bool st.room) ∧ w = w' := by
  have c1 := h.hp.cell 1
  have HR : Hid (st.room = decide ((len : Int) - 1 ≤ 15)) := by
    unfold Hid Pst.room
    rw [← hl]
    congr 1
    apply propext
    omega
  clear h hl
  go_enter Tryz.func54, Tryz.ntmps54
  go_wp2
  go_ret
  exact ⟨by rw [HR.out]; rfl, rfl⟩
theorem frame_cells {f : Fr} {sv tv : Value} {k : Nat} (h : FrAt w B col cs k f sv tv) (ho : Holds w ob tF cs) :
    w.cell? ⟨ob, k * 5, none⟩ = some sv ∧ w.cell? ⟨ob, k * 5 + 1, none⟩ = some tv ∧ w.cell? ⟨ob, k * 5 + 2, none⟩ = some (.int .u8 (f.kind : Int)) ∧ w.cell? ⟨ob, k * 5 + 3, none⟩ = some (strV f.sign) ∧ w.cell? ⟨ob, k * 5 + 4, none⟩ = some (.int .i64 (f.at' : Int)) :=
  ⟨(ho.cell _).trans h.c0, (ho.cell _).trans h.c1, (ho.cell _).trans h.c2, (ho.cell _).trans h.c3, (ho.cell _).trans h.c4⟩
set_option maxRecDepth 100000 in
theorem last_any (h : PSx Tryz.prog w B col pb ob cap len s st i fv gb cs gn) (hl : len = st.fs.length) (h1 : 1 ≤ len) (h2 : len ≤ 1000) (k : Nat) :
    Calls Tryz.prog 57 #[.pointer (some ⟨pb, 0, none⟩), .int .u8 (k : Int)] w fun e w' => e = .returned (.int .i64 (lastK k st.fs : Nat)) ∧ w = w' := by
  have c1 := h.hp.cell 1
  have HK : Hid (∀ (j : Nat) f, st.fs.reverse[j]? = some f → w.cell? ⟨ob, j * 5 + 2, none⟩ = some (.int .u8 (f.kind : Int))) := fun j f hj => by
    obtain ⟨sv, tv, hf⟩ := h.fr j f hj
    exact (frame_cells hf h.ho).2.2.1
  clear h
  obtain ⟨n, rfl⟩ : ∃ n, len = n + 1 := ⟨len - 1, by omega⟩
  have HL := Lib.hid hl
  clear hl
  have e2 : ((n : Int) + 1 - 1) = (n : Int) := by omega
  go_enter Tryz.func57, Tryz.ntmps57
  go_wp2
  clear e2
  go_loopg [5] n (fun r i wr => ∃ m : Nat, m + r = n ∧ i = .int .i64 (r : Int) ∧ Hid (lastK k st.fs = lastK k (st.fs.drop m)) ∧ w = wr)
  case atStart => exact ⟨0, by omega, rfl, rfl, rfl⟩
  case round =>
    obtain ⟨m, hm, rfl, HM, rfl⟩ := hrel
    have hmlt : m < st.fs.length := by have := HL.out; omega
    have hd := List.drop_eq_getElem_cons hmlt
    have hlen : (st.fs.drop (m + 1)).length = gk := by rw [List.length_drop]; have := HL.out; omega
    have hrev : st.fs.reverse[gk]? = some st.fs[m] := by
      rw [List.getElem?_reverse (by have := HL.out; omega)]
      rw [show st.fs.length - 1 - gk = m by have := HL.out; omega, List.getElem?_eq_getElem hmlt]
    cases hg : gk with
    | zero =>
      subst hg
      have HZ : Hid (lastK k st.fs = 0) := by
        unfold Hid
        rw [HM.out, hd, List.eq_nil_of_length_eq_zero hlen]; rfl
      clear hd hlen hrev
      go_wp2
      go_ret
      exact ⟨by rw [HZ.out]; rfl, rfl⟩
    | succ g =>
      subst hg
      have hc := HK.out _ _ hrev
      have hne : st.fs.drop (m + 1) ≠ [] := fun e => by rw [e] at hlen; simp at hlen
      by_cases hk : (st.fs[m]).kind = k
      · have HZ : Hid (lastK k st.fs = g + 1) := by
          unfold Hid
          rw [HM.out, hd, lastK, if_neg hne, if_pos hk, hlen]
        have hb : (((st.fs[m]).kind : Int) == (k : Int)) = true := by simp; omega
        generalize (st.fs[m]).kind = q at hc hb
        clear hd hlen hrev hne hk
        go_wp2
        go_ret
        exact ⟨by rw [HZ.out]; rfl, rfl⟩
      · have HZ : Hid (lastK k st.fs = lastK k (st.fs.drop (m + 1))) := by
          unfold Hid
          rw [HM.out, hd, lastK, if_neg hne, if_neg hk]
        have hb : (((st.fs[m]).kind : Int) == (k : Int)) = false := by simp; omega
        generalize (st.fs[m]).kind = q at hc hb
        clear hd hlen hrev hne hk
        go_wp2
        go_roundg g
        case measure => omega
        case rel => exact ⟨m + 1, by omega, by go_num, HZ, rfl⟩
end
end Go.Proofs.YtmdbhdhfdldegaaGreatDoor
namespace Go.Proofs.YtmdbhdhfdldegaaGreatDoor
open Go.RowKit Go.Bd
section
variable {w w' : World} {B : Nat} {col col' : Nat → Nat} {pb ob cap len : Nat} {s : ByteArray} {st : Pst} {fv : Value} {cs : Array Value}
theorem rfault_info : (Tryz.prog.info? 111).map (fun i => (i.zero, i.size, i.bytes)) = some (some (.agg #[.int .i64 0, .int .i64 0]), 2, 16) := by kernel_rfl
theorem rframe_info : (Tryz.prog.info? 79).map (fun i => (i.zero, i.size, i.bytes)) = some (some (.agg #[.int .u8 0, .int .i64 0, .string ⟨#[]⟩, .slice none 0 0]), 4, 56) := by kernel_rfl
set_option maxRecDepth 100000 in
theorem rwrong_any (h : RSx w B col pb ob cap len s st fv cs) (a f : Nat) (hfl : st.faults.length ≤ 10000000) :
    Calls Tryz.prog 67 #[.pointer (some ⟨pb, 0, none⟩), .int .i64 (a : Int), .int .i64 (f : Int)] w fun e w' => e = .returned (.tuple #[]) ∧ ∃ col' fv', RSx w' B col' pb ob cap len s (st.tell a f) fv' cs ∧ Stay B w w' col col' := by
  have H := Lib.hid h
  have c2 := h.hp.cell 2
  have hpw := h.hp.lt
  have hB := h.hpB
  have hf := h.hf
  have hpf : fv.ownBlock ≠ some pb := fun e => by have h1 := h.cf _ e; have h2 := h.cp; omega
  clear h
  go_enter Tryz.func67, Tryz.ntmps67
  go_wp2_with (at_builtin; refine wpList_app_el _ rfl _ _ 81 rfl B 111 (.agg #[.int .i64 0, .int .i64 0]) 2 16 Tryz.underlying81 rfault_info rfl (by omega) _ st.faults.length (toldCells st.faults) rfl (hf.alloc _) _ 1 [.int .i64 (a : Int), .int .i64 (f : Int)] rfl rfl (Holds.new w _ _) (by simp [Value.oneCell']) (by omega) (by omega) (by simp; omega) ?_)
  intro v1 w1 ho1 hg1 hn1
  have hch1 := Chg.grown hg1
  have hp1 := hch1.holds (fun e => hpf e.symm) (H.out.hp.alloc (.cells #[.int .i64 (a : Int), .int .i64 (f : Int)] 111))
  have d2 := hp1.cell 2
  have d3 := hp1.free 2
  obtain ⟨A1, c1, rfl, hle⟩ := own_slice2 ho1
  have HN := Lib.hid hn1
  have HO := Lib.hid ho1
  clear hn1 ho1
  go_wp2
  go_end0
  refine ⟨rfl, ?_⟩
  have hnear : ∀ b, (Value.slice A1 (st.faults.length + 1) c1).ownBlock = some b → fv.ownBlock = some b ∨ w.heap.size ≤ b := fun b hb => by
    rcases HN.out.old b hb with h | h
    · exact .inl h
    · simp at h; exact .inr (by omega)
  have hch : Chg w (w1.setCell ⟨pb, 2, none⟩ (.slice A1 (st.faults.length + 1) c1)) (fun b => b = pb ∨ fv.ownBlock = some b) :=
    Chg.step (((Chg.refl w _).alloc _).trans hch1 (fun k _ h => Or.inr h.symm)) (fun k _ e => Or.inl e)
  have hpn := hp1.set 2 (.slice A1 (st.faults.length + 1) c1)
  have hfn : (w1.setCell ⟨pb, 2, none⟩ (.slice A1 (st.faults.length + 1) c1)).ownsRow B tU 2 (.slice A1 (st.faults.length + 1) c1) (st.faults ++ [(a, f)]).length (toldCells (st.faults ++ [(a, f)])) := by
    rw [toldCells_snoc, List.length_append]
    refine ownsRow_setCell_other HO.out (fun e => ?_) _
    rcases hnear _ e with h | h
    · exact hpf h
    · simp only at h; omega
  obtain ⟨col', h1, h2⟩ := H.out.faults hch (fun b hb => hb) hpn hfn hnear
  exact ⟨col', _, h1, h2⟩
set_option maxRecDepth 100000 in
theorem rlast_any (h : RSx w B col pb ob cap len s st fv cs) (hl : len = st.fs.length) (h1 : 1 ≤ len) (h2 : len ≤ 1000) (k : Nat) :
    Calls Tryz.prog 41 #[.pointer (some ⟨pb, 0, none⟩), .int .u8 (k : Int)] w fun e w' => e = .returned (.int .i64 (lastK k st.fs : Nat)) ∧ w = w' := by
  have c1 := h.hp.cell 1
  have HK : Hid (∀ (j : Nat) f, st.fs.reverse[j]? = some f → w.cell? ⟨ob, j * 4, none⟩ = some (.int .u8 (f.kind : Int))) := fun j f hj => by
    obtain ⟨sv, hf⟩ := h.fr j f hj
    exact (h.ho.cell (j * 4)).trans hf.c0
  clear h
  obtain ⟨n, rfl⟩ : ∃ n, len = n + 1 := ⟨len - 1, by omega⟩
  have HL := Lib.hid hl
  clear hl
  have e2 : ((n : Int) + 1 - 1) = (n : Int) := by omega
  go_enter Tryz.func41, Tryz.ntmps41
  go_wp2
  clear e2
  go_loopg [5] n (fun r i wr => ∃ m : Nat, m + r = n ∧ i = .int .i64 (r : Int) ∧ Hid (lastK k st.fs = lastK k (st.fs.drop m)) ∧ w = wr)
  case atStart => exact ⟨0, by omega, rfl, rfl, rfl⟩
  case round =>
    obtain ⟨m, hm, rfl, HM, rfl⟩ := hrel
    have hmlt : m < st.fs.length := by have := HL.out; omega
    have hd := List.drop_eq_getElem_cons hmlt
    have hlen : (st.fs.drop (m + 1)).length = gk := by rw [List.length_drop]; have := HL.out; omega
    have hrev : st.fs.reverse[gk]? = some st.fs[m] := by
      rw [List.getElem?_reverse (by have := HL.out; omega)]
      rw [show st.fs.length - 1 - gk = m by have := HL.out; omega, List.getElem?_eq_getElem hmlt]
    cases hg : gk with
    | zero =>
      subst hg
      have HZ : Hid (lastK k st.fs = 0) := by
        unfold Hid
        rw [HM.out, hd, List.eq_nil_of_length_eq_zero hlen]; rfl
      clear hd hlen hrev
      go_wp2
      go_ret
      exact ⟨by rw [HZ.out]; rfl, rfl⟩
    | succ g =>
      subst hg
      have hc := HK.out _ _ hrev
      have hne : st.fs.drop (m + 1) ≠ [] := fun e => by rw [e] at hlen; simp at hlen
      by_cases hk : (st.fs[m]).kind = k
      · have HZ : Hid (lastK k st.fs = g + 1) := by
          unfold Hid
          rw [HM.out, hd, lastK, if_neg hne, if_pos hk, hlen]
        have hb : (((st.fs[m]).kind : Int) == (k : Int)) = true := by simp; omega
        generalize (st.fs[m]).kind = q at hc hb
        clear hd hlen hrev hne hk
        go_wp2
        go_ret
        exact ⟨by rw [HZ.out]; rfl, rfl⟩
      · have HZ : Hid (lastK k st.fs = lastK k (st.fs.drop (m + 1))) := by
          unfold Hid
          rw [HM.out, hd, lastK, if_neg hne, if_neg hk]
        have hb : (((st.fs[m]).kind : Int) == (k : Int)) = false := by simp; omega
        generalize (st.fs[m]).kind = q at hc hb
        clear hd hlen hrev hne hk
        go_wp2
        go_roundg g
        case measure => omega
        case rel => exact ⟨m + 1, by omega, by go_num, HZ, rfl⟩
theorem rsRow (h : RSx w B col pb ob cap len s st fv cs) : w.ownsRow B tG 4 (.slice (some ⟨ob, 0, none⟩) len cap) len (cs.toList.take (len * 4)) := by
  refine ⟨?_, .inr ⟨ob, cap, cs, rfl, h.hoB, h.ho, h.hcap, h.hmax, h.hcs, rfl⟩⟩
  have h1 := h.hcap
  have h2 := h.hcs
  have := Nat.mul_le_mul_right 4 h1
  rw [List.length_take, Array.length_toList]; omega
theorem rsOfRow {P : Program} {v : Value} {n : Nat} {e : TypeId} {xs : List Value} (h : w.ownsRow B e 4 v (n + 1) xs) : ∃ ob' cap' cs', v = .slice (some ⟨ob', 0, none⟩) (n + 1) cap' ∧ Holds w ob' e cs' ∧ cs'.size = cap' * 4 ∧ n + 1 ≤ cap' ∧ cap' ≤ maxLen ∧ cs'.toList.take ((n + 1) * 4) = xs := by
  rcases h.2 with ⟨_, h0⟩ | ⟨g, cap, cur, hv, _, hh, hc, hm, hs, ht⟩
  · omega
  · exact ⟨g, cap, cur, hv, hh, hs, hc, hm, ht⟩
set_option maxRecDepth 100000 in
theorem ropens_room (h : RSx w B col pb ob cap len s st fv cs) (hl : len = st.fs.length) (h2 : len ≤ 16) (k a : Nat) (sign : Bs) :
    Calls Tryz.prog 40 #[.pointer (some ⟨pb, 0, none⟩), .int .u8 (k : Int), .int .i64 (a : Int), .string ⟨sign.toArray⟩] w fun e w' => e = .returned (.tuple #[]) ∧
      ∃ col' ob' cap' cs', RSx w' B col' pb ob' cap' (len + 1) s (st.begin k a sign) fv cs' ∧ Stay B w w' col col' := by
  have H := Lib.hid h
  have c1 := h.hp.cell 1
  have hpw := h.hp.lt
  have how := h.ho.lt
  have hB := h.hpB
  have hr := rsRow h
  have hpo : (Value.slice (some ⟨ob, 0, none⟩) len cap).ownBlock ≠ some pb := fun e => by
    have h1 := h.co; have h2 := h.cp
    simp only [Value.ownBlock, Option.some.injEq] at e
    subst e; omega
  have HL := Lib.hid hl
  clear h hl
  go_enter Tryz.func40, Tryz.ntmps40
  go_wp2_with (at_builtin; refine wpList_app_el _ rfl _ _ 80 rfl B 79 (.agg #[.int .u8 0, .int .i64 0, .string ⟨#[]⟩, .slice none 0 0]) 4 56 Tryz.underlying80 rframe_info rfl (by omega) _ len (cs.toList.take (len * 4)) rfl (hr.alloc _) _ 1 [.int .u8 (k : Int), .int .i64 (a : Int), .string ⟨sign.toArray⟩, .slice none 0 0] rfl rfl (Holds.new w _ _) (by simp [Value.oneCell']) (by omega) (by omega) (by simp; omega) ?_)
  intro v1 w1 ho1 hg1 hn1
  have hch1 := Chg.grown hg1
  have hp1 := hch1.holds (fun e => hpo e.symm) (H.out.hp.alloc (.cells #[.int .u8 (k : Int), .int .i64 (a : Int), .string ⟨sign.toArray⟩, .slice none 0 0] 79))
  have d2 := hp1.cell 1
  have d3 := hp1.free 1
  obtain ⟨ob', cap', cs', rfl, hho, hcs', hcap', hmax', htk⟩ := rsOfRow (P := Tryz.prog) ho1
  have HN := Lib.hid hn1
  have HT := Lib.hid htk
  clear hn1 ho1 htk
  go_wp2
  go_end0
  refine ⟨rfl, ?_⟩
  have hnear : ob' = ob ∨ w.heap.size ≤ ob' := by
    rcases HN.out with h | h
    · exact .inl (by simpa [Value.ownBlock] using h)
    · simp [Value.ownBlock] at h; exact .inr (by omega)
  have hpb' : ob' ≠ pb := fun e => by
    rcases hnear with h | h
    · exact hpo (by rw [← h, e]; rfl)
    · omega
  have hch : Chg w (w1.setCell ⟨pb, 1, none⟩ (.slice (some ⟨ob', 0, none⟩) (len + 1) cap')) (fun b => b = pb ∨ b = ob) :=
    Chg.step (((Chg.refl w _).alloc _).trans hch1 (fun k _ h => Or.inr (by simpa [Value.ownBlock] using h))) (fun k _ e => Or.inl e)
  have hpn := hp1.set 1 (.slice (some ⟨ob', 0, none⟩) (len + 1) cap')
  have hon := hho.far (p := ⟨pb, 1, none⟩) hpb' (.slice (some ⟨ob', 0, none⟩) (len + 1) cap')
  have hle := H.out.hcap
  have hsz := H.out.hcs
  have hm5 := Nat.mul_le_mul_right 4 hle
  have hn5 := Nat.mul_le_mul_right 4 hcap'
  have hlen5 : (cs.toList.take (len * 4)).length = len * 4 := by rw [List.length_take, Array.length_toList]; omega
  have get : ∀ j, j < (len + 1) * 4 → cs'[j]? = (cs.toList.take (len * 4) ++ [.int .u8 (k : Int), .int .i64 (a : Int), .string ⟨sign.toArray⟩, .slice none 0 0])[j]? := fun j hj => by
    rw [← HT.out, List.getElem?_take, if_pos hj, Array.getElem?_toList]
  obtain ⟨col', h1, h2⟩ := H.out.push (f := ⟨Rw.none, k, sign, a⟩) HL.out rfl hch (fun b hb => hb) hpn hon hnear hcs' hcap' hmax'
    (fun j hj => by rw [get j (by omega), List.getElem?_append_left (by omega), List.getElem?_take, if_pos hj, Array.getElem?_toList])
    (fun j u hu => by
      have hj : j < 4 := by have := (List.getElem?_eq_some_iff.1 hu).1; simpa using this
      rw [get _ (by omega), List.getElem?_append_right (by omega), hlen5, Nat.add_sub_cancel_left]
      exact hu)
  exact ⟨col', ob', cap', cs', h1, h2⟩
end
end Go.Proofs.YtmdbhdhfdldegaaGreatDoor
namespace Go.Bd
open Go.RowKit Go.Proofs.YtmdbhdhfdldegaaGreatDoor
def PstOk (st : Pst) : Prop := ∀ f ∈ st.fs, RwOk f.row
theorem PstOk.first : PstOk Pst.first := fun f hf => by
  simp [Pst.first] at hf
  subst hf; exact RwOk.none
theorem PstOk.top {st : Pst} (h : PstOk st) {g : Rw → Rw} (hg : ∀ r, RwOk r → RwOk (g r)) : PstOk (st.top g) := fun f hf => by
  unfold Pst.top at hf
  match hq : st.fs, hf with
  | [], hf => simp [hq, onTop] at hf
  | a :: r, hf =>
    simp only [hq, onTop] at hf
    rcases List.mem_cons.1 hf with rfl | h1
    · exact hg _ (h a (by rw [hq]; exact List.mem_cons_self ..))
    · exact h f (by rw [hq]; exact List.mem_cons_of_mem _ h1)
theorem PstOk.write {st : Pst} (h : PstOk st) (s : Bs) : PstOk (st.write s) := h.top fun _ hr => hr.write s
theorem PstOk.tell {st : Pst} (h : PstOk st) (a f : Nat) : PstOk (st.tell a f) := h
theorem PstOk.begin {st : Pst} (h : PstOk st) (k i : Nat) (s : Bs) : PstOk (st.begin k i s) := fun f hf => by
  unfold Pst.begin at hf
  rcases List.mem_cons.1 hf with rfl | h1
  · exact RwOk.none
  · exact h f h1
theorem RwOk.adds : ∀ {l : List Sp} {r : Rw}, RwOk r → (∀ x ∈ l, x.ok) → RwOk (l.foldl Rw.add r)
  | [], _, h, _ => h
  | x :: l, r, h, hl => RwOk.adds (l := l) (h.add (hl x (List.mem_cons_self ..))) (fun y hy => hl y (List.mem_cons_of_mem _ hy))
theorem RwOk.spill {f : Fr} {r : Rw} (hf : RwOk f.row) (h : RwOk r) : RwOk (spill f r) := (RwOk.adds (h.write f.sign) hf.all).write _
theorem PstOk.drop1 {st : Pst} (h : PstOk st) : PstOk st.drop1 := by
  unfold Pst.drop1
  split
  · rename_i f g r hq
    intro x hx
    simp only [onTop] at hx
    rcases List.mem_cons.1 hx with rfl | h1
    · exact (h f (by rw [hq]; simp)).spill (h g (by rw [hq]; simp))
    · exact h x (by rw [hq]; simp [h1])
  · exact h
theorem PstOk.dropN : ∀ (n : Nat) {st : Pst}, PstOk st → PstOk (st.dropN n)
  | 0, _, h => h
  | n + 1, _, h => PstOk.dropN n h.drop1
theorem PstOk.drop {st : Pst} (h : PstOk st) (n : Nat) : PstOk (st.drop n) := h.dropN _
theorem PstOk.shut {st : Pst} (h : PstOk st) (hk : ∀ f ∈ st.fs, ∀ g r, st.fs = f :: g :: r → f.kind ≠ 0) : PstOk st.shut := by
  unfold Pst.shut
  split
  · rename_i f r hq
    intro x hx
    match r, hx with
    | [], hx => simp [onTop] at hx
    | g :: r, hx =>
      simp only [onTop] at hx
      rcases List.mem_cons.1 hx with rfl | h1
      · exact (h g (by rw [hq]; simp)).add (fun e => absurd e (hk f (by rw [hq]; simp) g r hq))
      · exact h x (by rw [hq]; simp [h1])
  · exact h
theorem top_fs {st : Pst} {f : Fr} {r : List Fr} (h : st.fs = f :: r) (g : Rw → Rw) : st.top g = { st with fs := { f with row := g f.row } :: r } := by
  unfold Pst.top
  rw [h]
  rfl
theorem wtL_mem {l : List Sp} {y : Sp} (h : y ∈ l) (hk : y.kind = 0) : y.text.length ≤ wtL l := by
  unfold wtL
  induction l with
  | nil => simp at h
  | cons a l ih =>
    rw [List.map_cons, List.sum_cons]
    rcases List.mem_cons.1 h with rfl | h1
    · have : wtS y = max 1 y.text.length := by unfold wtS; rw [if_pos hk]
      omega
    · have := ih h1; omega
end Go.Bd
namespace Go.Proofs.YtmdbhdhfdldegaaGreatDoor
open Go.RowKit Go.Bd
section
variable {w w' : World} {B : Nat} {col col' : Nat → Nat} {pb ob cap len : Nat} {s : ByteArray} {st : Pst} {fv : Value} {cs : Array Value}
theorem rputTop_any (h : RSx w B col pb ob cap st.fs.length s st fv cs) {f : Fr} {r : List Fr} (hfs : st.fs = f :: r) (hn : r.length ≤ 1000) (ok : RwOk f.row) (hw : wtR f.row ≤ 1000000) (x : Sp) (hx : x.ok) (kv : Value) (hk : Forest w (col · = 4) kv x.kids) (hxt : x.kind = 0 → x.text.length ≤ 1000000) :
    Calls Tryz.prog 65 #[.pointer (some ⟨pb, 0, none⟩), .agg #[.int .u8 (x.kind : Int), strV x.text, strV x.sub, strV x.see, kv]] w fun e w' => e = .returned (.tuple #[]) ∧
      ∃ col' cs', RSx w' B col' pb ob cap (st.top (·.add x)).fs.length s (st.top (·.add x)) fv cs' ∧ Stay B w w' col col' := by
  obtain ⟨sv, hg⟩ := h.fr r.length f (by rw [hfs]; exact rev_last f r)
  have hl1 : st.fs.length = r.length + 1 := by rw [hfs]; rfl
  have hp := h.hp
  rw [hl1] at hp
  have hcap := h.hcap
  have hwl : wtL f.row.flush.sp ≤ 1000000 := by rw [wtL_flush]; exact hw
  have hll := wtL_len f.row.flush.sp
  have hbs : sv.ownBlock ≠ some ob := fun e => by have := hg.csp ob e; have := h.co; omega
  have hps : sv.ownBlock ≠ some pb := fun e => by have := hg.csp pb e; have := h.cp; omega
  have hpo : pb ≠ ob := fun e => by have h1 := h.cp; have h2 := h.co; rw [e] at h1; omega
  refine (rput_any pb ob r.length cap s fv cs sv f.row.flush.sp x kv w B (col · = 4) hp h.ho hg.c3 hn (by omega) h.hmax hg.sp hpo hbs hps (fun k hk => ⟨h.lt4 hk, fun e => by have := h.co; rw [e] at hk; omega, fun e => by have := hg.csp k e; omega⟩) (by have := h.hpB; have := h.hp.lt; omega) (by omega) hk hxt (fun y hy hk => Nat.le_trans (wtL_mem hy hk) hwl)).mono ?_
  rintro e w' ⟨rfl, sv', h1, h2, h3, h4⟩
  rw [← put_add ok hx] at h2
  obtain ⟨col', k1, k2⟩ := h.put hfs hg h3 (fun b hb => hb) h1 h2 h4
  have e : ({ st with fs := { f with row := f.row.add x } :: r } : Pst).fs.length = st.fs.length := by rw [hfs]; rfl
  rw [top_fs hfs (fun q => q.add x)]
  refine ⟨rfl, col', cs.setIfInBounds (r.length * 4 + 3) sv', ?_, k2⟩
  rw [e]
  exact k1
set_option maxRecDepth 100000 in
theorem rtext_any (h : RSx w B col pb ob cap st.fs.length s st fv cs) {f : Fr} {r : List Fr} (hfs : st.fs = f :: r) (hn : r.length ≤ 1000) (ok : RwOk f.row) (hw : wtR f.row ≤ 1000000) (x : Bs) (hxl : x.length ≤ 1000000) :
    Calls Tryz.prog 37 #[.pointer (some ⟨pb, 0, none⟩), .string ⟨x.toArray⟩] w fun e w' => e = .returned (.tuple #[]) ∧
      ∃ col' cs', RSx w' B col' pb ob cap (st.write x).fs.length s (st.write x) fv cs' ∧ Stay B w w' col col' := by
  have hp := rputTop_any h hfs hn ok hw (txt x) (fun _ => rfl) (.slice none 0 0) (Forest.nil _ _) (fun _ => hxl)
  have e : st.top (·.add (txt x)) = st.write x := rfl
  rw [e] at hp
  have HP : Hid (Calls Tryz.prog 65 #[.pointer (some ⟨pb, 0, none⟩), .agg #[.int .u8 0, .string ⟨x.toArray⟩, .string ⟨#[]⟩, .string ⟨#[]⟩, .slice none 0 0]] w fun e w' => e = .returned (.tuple #[]) ∧
      ∃ col' cs', RSx w' B col' pb ob cap (st.write x).fs.length s (st.write x) fv cs' ∧ Stay B w w' col col') := Lib.hid hp
  clear hp h ok
  go_enter Tryz.func37, Tryz.ntmps37
  go_wp2_with (go_at_call 65; refine HP.out.mono ?_; rintro e w1 ⟨rfl, h1⟩; have H1 := Lib.hid h1; clear h1)
  go_end0
  exact ⟨rfl, H1.out⟩
end
end Go.Proofs.YtmdbhdhfdldegaaGreatDoor
namespace Go.Proofs.YtmdbhdhfdldegaaGreatDoor
open Go.RowKit Go.Bd
section
variable {w w' : World} {B : Nat} {col col' : Nat → Nat} {pb ob cap len : Nat} {s : ByteArray} {st : Pst} {fv : Value} {cs : Array Value}
theorem _root_.Go.Bd.RSx.drewN (h : RSx w B col pb ob cap len s st fv cs) (n : Nat) : RSx (w.drewN n) B col pb ob cap len s st fv cs := h.keep (S := fun _ => False) ((Chg.refl w _).drewN n) (fun _ h => h.elim)
theorem _root_.Go.Bd.RSx.drew (h : RSx w B col pb ob cap len s st fv cs) : RSx w.drew B col pb ob cap len s st fv cs := h.keep (S := fun _ => False) ((Chg.refl w _).drew) (fun _ h => h.elim)
def stK (st : Pst) (f g : Fr) (r : List Fr) (k : Nat) : Pst := ⟨{ g with row := (f.row.flush.sp.take k).foldl Rw.add (g.row.write f.sign) } :: r, st.faults ++ [(f.at', 7)]⟩
theorem stK_succ {f g : Fr} {r : List Fr} {k : Nat} {x : Sp} (hx : f.row.flush.sp[k]? = some x) : (stK st f g r k).top (·.add x) = stK st f g r (k + 1) := by
  unfold stK Pst.top
  simp only [onTop]
  rw [List.take_add_one, hx]
  simp only [Option.toList_some, List.foldl_append, List.foldl_cons, List.foldl_nil]
theorem stK_end {f g : Fr} {r : List Fr} (hfs : st.fs = f :: g :: r) : stK st f g r f.row.flush.sp.length = st.drop1 := by
  unfold stK Pst.drop1
  rw [hfs, List.take_length, spill_fold]
  rfl
set_option maxRecDepth 100000 in
set_option maxHeartbeats 4000000 in
theorem rfails_any (h : RSx w B col pb ob cap st.fs.length s st fv cs) {f g : Fr} {r : List Fr} (hfs : st.fs = f :: g :: r) (ok : PstOk st) (i0 : Nat) (hI : Inv st i0) (hi0 : i0 ≤ 100000) :
    Calls Tryz.prog 44 #[.pointer (some ⟨pb, 0, none⟩)] w fun e w' => e = .returned (.tuple #[]) ∧
      ∃ col' fv' cs', RSx w' B col' pb ob cap st.drop1.fs.length s st.drop1 fv' cs' ∧ Stay B w w' col col' := by
  obtain ⟨n, hn⟩ : ∃ n, (g :: r).length = n := ⟨_, rfl⟩
  have hlen : st.fs.length = n + 1 := by rw [hfs, List.length_cons, hn]
  have hwt : wtF f + (wtF g + wtFs r) ≤ i0 := by
    have := hI.1
    rw [hfs, wtFs_cons, wtFs_cons] at this
    exact this
  have hn16 : n ≤ 16 := by have := hI.2.2.2; omega
  have hfl := hI.2.1
  have okf := ok f (by rw [hfs]; exact List.mem_cons_self ..)
  have okg := ok g (by rw [hfs]; simp)
  rw [hlen] at h
  obtain ⟨col1, sv, e0, e1, e2, e3, h1, st1, hF1⟩ := h.pop hfs
  rw [hn] at e0 e1 e2 e3
  obtain ⟨As, ac, rfl, hac, _⟩ := hF1.form
  have p1 := h.hp.cell 1
  have q0 := (h.ho.cell (n * 4)).trans e0
  have q1 := (h.ho.cell (n * 4 + 1)).trans e1
  have q2 := (h.ho.cell (n * 4 + 2)).trans e2
  have q3 := (h.ho.cell (n * 4 + 3)).trans e3
  have p2 := h.hp.free 1
  simp at p1
  have hpw := h.hp.lt
  have how := h.ho.lt
  have p1a : (w.alloc (.cells #[.int .u8 0, .int .i64 0, .string ⟨#[]⟩, .slice none 0 0] 79)).cell? ⟨pb, 1, none⟩ = some (.slice (some ⟨ob, 0, none⟩) (n + 1) cap) := by rw [World.cell?_alloc_lt _ _ _ hpw]; exact p1
  have q0a : (w.alloc (.cells #[.int .u8 0, .int .i64 0, .string ⟨#[]⟩, .slice none 0 0] 79)).cell? ⟨ob, n * 4, none⟩ = some (.int .u8 (f.kind : Int)) := by rw [World.cell?_alloc_lt _ _ _ how]; exact q0
  have q1a : (w.alloc (.cells #[.int .u8 0, .int .i64 0, .string ⟨#[]⟩, .slice none 0 0] 79)).cell? ⟨ob, n * 4 + 1, none⟩ = some (.int .i64 (f.at' : Int)) := by rw [World.cell?_alloc_lt _ _ _ how]; exact q1
  have q2a : (w.alloc (.cells #[.int .u8 0, .int .i64 0, .string ⟨#[]⟩, .slice none 0 0] 79)).cell? ⟨ob, n * 4 + 2, none⟩ = some (.string ⟨f.sign.toArray⟩) := by rw [World.cell?_alloc_lt _ _ _ how]; exact q2
  have q3a : (w.alloc (.cells #[.int .u8 0, .int .i64 0, .string ⟨#[]⟩, .slice none 0 0] 79)).cell? ⟨ob, n * 4 + 3, none⟩ = some (.slice As f.row.flush.sp.length ac) := by rw [World.cell?_alloc_lt _ _ _ how]; exact q3
  have hcap := h.hcap
  have hi0' : (0 : Int) ≤ (n : Int) := by omega
  have hi1' : (n : Int) < (n : Int) + 1 := by omega
  have H1 := Lib.hid (And.intro h1 (And.intro st1 hF1))
  have HH := Lib.hid (And.intro hfs (And.intro ok (And.intro hI hlen)))
  clear h1 st1 hF1 e0 e1 e2 e3 ok hI h
  unfold strV at q2
  go_enter Tryz.func44, Tryz.ntmps44
  go_wp2
  go_region
  all_goals go_wp2
  obtain ⟨h1, st1, hF1⟩ := H1.out
  obtain ⟨col2, h2, st2, hc8, _⟩ := h1.local (.cells #[.int .u8 (f.kind : Int), .int .i64 (f.at' : Int), .string ⟨f.sign.toArray⟩, .slice As f.row.flush.sp.length ac] 79)
  have st12 : Stay B w (w.alloc (.cells #[.int .u8 (f.kind : Int), .int .i64 (f.at' : Int), .string ⟨f.sign.toArray⟩, .slice As f.row.flush.sp.length ac] 79)).drew col col2 := (st1.trans st2).trans ⟨(Below.refl _ _).drew, fun c b hc hb _ => ⟨hb, rfl⟩⟩
  have hF2 : Forest (w.alloc (.cells #[.int .u8 (f.kind : Int), .int .i64 (f.at' : Int), .string ⟨f.sign.toArray⟩, .slice As f.row.flush.sp.length ac] 79)).drew (col2 · = 4) (.slice As f.row.flush.sp.length ac) f.row.flush.sp := (st2.trans (col'' := col2) (w'' := (w.alloc (.cells #[.int .u8 (f.kind : Int), .int .i64 (f.at' : Int), .string ⟨f.sign.toArray⟩, .slice As f.row.flush.sp.length ac] 79)).drew) ⟨(Below.refl _ _).drew, fun c b hc hb _ => ⟨hb, rfl⟩⟩).forest hF1
  have hX2 : Holds (w.alloc (.cells #[.int .u8 (f.kind : Int), .int .i64 (f.at' : Int), .string ⟨f.sign.toArray⟩, .slice As f.row.flush.sp.length ac] 79)).drew w.heap.size 79 #[.int .u8 (f.kind : Int), .int .i64 (f.at' : Int), .string ⟨f.sign.toArray⟩, .slice As f.row.flush.sp.length ac] := (Holds.new w _ _).drew
  replace h2 := h2.drew
  obtain ⟨bx, hbx⟩ : ∃ bx, w.heap.size = bx := ⟨_, rfl⟩
  obtain ⟨W1, hW1⟩ : ∃ W1, (w.alloc (.cells #[.int .u8 (f.kind : Int), .int .i64 (f.at' : Int), .string ⟨f.sign.toArray⟩, .slice As f.row.flush.sp.length ac] 79)).drew = W1 := ⟨_, rfl⟩
  (try rw [hW1])
  (try rw [hbx])
  rw [hW1] at h2 st12 hF2 hX2
  rw [hbx] at hX2 hc8
  have HBW := Lib.hid (And.intro hW1 hbx)
  clear hW1 hbx p1 q0 q1 q2 q3 p2 p1a q0a q1a q2a q3a h1 st1 st2 hF1 H1
  have p1 := h2.hp.cell 1
  have p2 := h2.hp.free 1
  simp at p1
  have h3 := h2.cut (n := n) (by show (g :: r).length ≤ n; omega) (by omega)
  have H3 := Lib.hid (And.intro h3 (And.intro st12 (And.intro hF2 (And.intro hX2 hc8))))
  clear h3 h2 st12 hF2 hX2
  go_region
  obtain ⟨W2, hW2⟩ : ∃ W2, (W1.setCell ⟨pb, 1, none⟩ (.slice (some ⟨ob, 0, none⟩) n cap)).drew = W2 := ⟨_, rfl⟩
  rw [hW2]
  obtain ⟨⟨h3, st3⟩, st12, hF2, hX2, hc8⟩ := H3.out
  replace h3 := h3.drew
  have stD := st3.trans (⟨(Below.refl _ _).drew, fun c b hc hb _ => ⟨hb, rfl⟩⟩ : Stay B _ (W1.setCell ⟨pb, 1, none⟩ (.slice (some ⟨ob, 0, none⟩) n cap)).drew col2 col2)
  rw [hW2] at h3 stD
  have st0 := st12.trans stD
  have hF3 := stD.forest hF2
  obtain ⟨hc8', hX3⟩ := stD.holds hc8 hX2
  have x1 := hX3.cell 1
  simp at x1
  have hfs2 : ({ st with fs := g :: r } : Pst).fs = g :: r := rfl
  have hwr := rwrong_any h3 f.at' 7 (by show st.faults.length ≤ 10000000; omega)
  have HWR := Lib.hid hwr
  have H4 := Lib.hid (And.intro st0 (And.intro hF3 hX3))
  clear h3 st3 st12 hF2 hX2 hc8 stD H3 hW2 hwr st0 hF3 hX3 p1 p2
  go_wp2_with (go_at_call 67; refine HWR.out.mono ?_; rintro e W3 ⟨rfl, col3, fv3, h4, st4⟩; have hx4 := st4.holds hc8' H4.out.2.2; have x2 := hx4.2.cell 2; have x3 := hx4.2.cell 3; simp at x2 x3; have H5 := Lib.hid (And.intro h4 (And.intro (H4.out.1.trans st4) (And.intro (st4.forest H4.out.2.1) hx4))); clear h4 st4 hx4)
  clear hfs2
  have h5 : RSx W3 B col3 pb ob cap (({ st with fs := g :: r } : Pst).tell f.at' 7).fs.length s (({ st with fs := g :: r } : Pst).tell f.at' 7) fv3 cs := by
    show RSx W3 B col3 pb ob cap (g :: r).length s _ fv3 cs
    rw [hn]
    exact H5.out.1
  have hwg : wtR g.row + f.sign.length + wtL f.row.flush.sp ≤ 100000 := by
    rw [wtL_flush]
    unfold wtF at hwt
    omega
  have hrl : r.length ≤ 1000 := by rw [List.length_cons] at hn; omega
  have htx := rtext_any h5 (f := g) (r := r) rfl hrl okg (by omega) f.sign (by omega)
  have HTX := Lib.hid htx
  have HOK := Lib.hid (And.intro okf okg)
  clear h5 htx okf okg HWR
  go_wp2_with (go_at_call 37; refine HTX.out.mono ?_; rintro e W4 ⟨rfl, col4, cs4, h6, st6⟩; have hx6 := st6.holds H5.out.2.2.2.1 H5.out.2.2.2.2; have H6 : Hid (RSx W4 B col4 pb ob cap (stK st f g r 0).fs.length s (stK st f g r 0) fv3 cs4 ∧ Stay B w W4 col col4 ∧ Forest W4 (col4 · = 4) (.slice As f.row.flush.sp.length ac) f.row.flush.sp ∧ col4 bx = 8 ∧ Holds W4 bx 79 #[.int .u8 (f.kind : Int), .int .i64 (f.at' : Int), .string ⟨f.sign.toArray⟩, .slice As f.row.flush.sp.length ac]) := Lib.hid ⟨h6, H5.out.2.1.trans st6, st6.forest H5.out.2.2.1, hx6.1, hx6.2⟩; clear h6 st6 hx6)
  obtain ⟨L, hL⟩ : ∃ L, f.row.flush.sp.length = L := ⟨_, rfl⟩
  have hLb : L ≤ 100000 := by have := wtL_len f.row.flush.sp; omega
  rw [hL] at H6 hac
  have HL := Lib.hid hL
  (try rw [hL])
  clear hL H5 HTX x1 x2 x3 hc8'
  go_loopg [3] L (fun q vi wr => ∃ k : Nat, k + q = L ∧ vi = .int .i64 (k : Int) ∧ Hid (∃ colk csk, RSx wr B colk pb ob cap (stK st f g r k).fs.length s (stK st f g r k) fv3 csk ∧ Stay B w wr col colk ∧ Forest wr (colk · = 4) (.slice As L ac) f.row.flush.sp ∧ colk bx = 8 ∧ Holds wr bx 79 #[.int .u8 (f.kind : Int), .int .i64 (f.at' : Int), .string ⟨f.sign.toArray⟩, .slice As L ac]))
  case atStart => exact ⟨0, by omega, rfl, Lib.hid ⟨_, _, H6.out⟩⟩
  case round =>
    obtain ⟨k, hk, rfl, HS⟩ := hrel
    obtain ⟨colk, csk, hk1, hk2, hk3, hk4, hk5⟩ := HS.out
    have x3 := hk5.cell 3
    simp at x3
    clear HS H6
    by_cases hlt : k < L
    · obtain ⟨x, hx⟩ : ∃ x, f.row.flush.sp[k]? = some x := ⟨_, List.getElem?_eq_getElem (by have := HL.out; omega)⟩
      obtain ⟨A9, a9, e9, _, hfm⟩ := hk3.form
      have e91 : As = A9 := by injection e9
      subst e91
      clear e9
      obtain ⟨b, off, kv, rfl, _, hkv, y0, y1, y2, y3, y4⟩ := hfm k x hx
      have hxm : x ∈ f.row.flush.sp := List.mem_of_getElem? hx
      have hxw : x.kind = 0 → x.text.length ≤ 1000000 := fun h0 => by have := wtL_mem hxm h0; omega
      have hrw : wtR ((f.row.flush.sp.take k).foldl Rw.add (g.row.write f.sign)) ≤ 1000000 := by
        have h1 := wtR_adds (f.row.flush.sp.take k) (g.row.write f.sign)
        have h2 : wtL (f.row.flush.sp.take k) ≤ wtL f.row.flush.sp := by
          have h3 : wtL f.row.flush.sp = wtL (f.row.flush.sp.take k) + wtL (f.row.flush.sp.drop k) := by rw [← wtL_app, List.take_append_drop]
          omega
        rw [wtR_write] at h1
        omega
      have hpt := rputTop_any hk1 (f := { g with row := (f.row.flush.sp.take k).foldl Rw.add (g.row.write f.sign) }) (r := r) rfl hrl (RwOk.adds (HOK.out.2.write _) (fun y hy => flush_all HOK.out.1 y (List.mem_of_mem_take hy))) hrw x (flush_all HOK.out.1 x hxm) kv hkv hxw
      rw [stK_succ hx] at hpt
      obtain ⟨Ak, ck, rfl, _, _⟩ := hkv.form
      have HPT := Lib.hid hpt
      have HK := Lib.hid (And.intro hk2 (And.intro hk3 (And.intro hk4 hk5)))
      unfold strV at y1 y2 y3
      clear hpt hk1 hk2 hk3 hk4 hk5 hfm hx hrw hkv hxw
      go_wp2_with (go_at_call 65; refine HPT.out.mono ?_; rintro e W5 ⟨rfl, col5, cs5, h7, st7⟩; have hx7 := st7.holds HK.out.2.2.1 HK.out.2.2.2; have H7 := Lib.hid (And.intro h7 (And.intro (HK.out.1.trans st7) (And.intro (st7.forest HK.out.2.1) hx7))); clear h7 st7 hx7)
      go_roundg (gk - 1)
      case measure => omega
      case rel => exact ⟨k + 1, by omega, by go_num, Lib.hid ⟨_, _, H7.out.1, H7.out.2.1, H7.out.2.2.1, H7.out.2.2.2.1, H7.out.2.2.2.2⟩⟩
    · obtain rfl : k = L := by omega
      have hse := stK_end HH.out.1
      rw [HL.out] at hse
      rw [hse] at hk1
      have HE := Lib.hid (And.intro hk1 hk2)
      clear hk1 hk2 hk3 hk4 hk5 hse
      go_wp2
      go_end0
      exact ⟨rfl, _, _, _, HE.out.1, HE.out.2⟩
end
end Go.Proofs.YtmdbhdhfdldegaaGreatDoor
namespace Go.Bd
open Go.RowKit Go.Proofs.YtmdbhdhfdldegaaGreatDoor
def PstKd (st : Pst) : Prop := ∀ f ∈ st.fs.dropLast, f.kind ≠ 0
theorem PstKd.two {st : Pst} (h : PstKd st) {f g : Fr} {r : List Fr} (hfs : st.fs = f :: g :: r) : f.kind ≠ 0 := h f (by rw [hfs]; simp)
theorem PstKd.first : PstKd Pst.first := fun f hf => by simp [Pst.first] at hf
theorem onTop_dl (g : Rw → Rw) (l : List Fr) : ∀ f ∈ (onTop g l).dropLast, ∃ f' ∈ l.dropLast, f.kind = f'.kind := fun f hf => by
  match l, hf with
  | [], hf => simp [onTop] at hf
  | [a], hf => simp [onTop] at hf
  | a :: b :: r, hf =>
    simp only [onTop, List.dropLast_cons_cons] at hf
    rcases List.mem_cons.1 hf with rfl | h1
    · exact ⟨a, by simp, rfl⟩
    · exact ⟨f, by rw [List.dropLast_cons_cons]; exact List.mem_cons_of_mem _ h1, rfl⟩
theorem PstKd.top {st : Pst} (h : PstKd st) (g : Rw → Rw) : PstKd (st.top g) := fun f hf => by
  obtain ⟨f', h1, h2⟩ := onTop_dl g st.fs f hf
  rw [h2]; exact h f' h1
theorem PstKd.tell {st : Pst} (h : PstKd st) (a f : Nat) : PstKd (st.tell a f) := h
theorem PstKd.begin {st : Pst} (h : PstKd st) {k : Nat} (hk : k ≠ 0) (hl : st.fs ≠ []) (i : Nat) (s : Bs) : PstKd (st.begin k i s) := fun f hf => by
  match hq : st.fs, hl with
  | a :: r, _ =>
    unfold Pst.begin at hf
    simp only [hq, List.dropLast_cons_cons] at hf
    rcases List.mem_cons.1 hf with rfl | h1
    · exact hk
    · exact h f (by rw [hq]; exact h1)
theorem PstKd.drop1 {st : Pst} (h : PstKd st) : PstKd st.drop1 := by
  unfold Pst.drop1
  split
  · rename_i f g r hq
    intro x hx
    obtain ⟨x', h1, h2⟩ := onTop_dl (spill f) (g :: r) x hx
    rw [h2]
    exact h x' (by rw [hq, List.dropLast_cons_cons]; exact List.mem_cons_of_mem _ h1)
  · exact h
theorem PstKd.dropN : ∀ (n : Nat) {st : Pst}, PstKd st → PstKd (st.dropN n)
  | 0, _, h => h
  | n + 1, _, h => PstKd.dropN n h.drop1
theorem PstKd.shut {st : Pst} (h : PstKd st) : PstKd st.shut := by
  unfold Pst.shut
  split
  · rename_i f r hq
    intro x hx
    obtain ⟨x', h1, h2⟩ := onTop_dl (fun q => q.add ⟨f.kind, [], [], [], f.row.flush.sp⟩) r x hx
    rw [h2]
    match r, hq, h1 with
    | [], hq, h1 => simp at h1
    | g :: r, hq, h1 => exact h x' (by rw [hq, List.dropLast_cons_cons]; exact List.mem_cons_of_mem _ h1)
  · exact h
theorem PstKd.fin {st : Pst} (h : PstKd st) (n : Nat) : PstKd (st.fin n) := PstKd.shut (PstKd.dropN _ h)
theorem PstOk.fin {st : Pst} (h : PstOk st) (hk : PstKd st) (n : Nat) : PstOk (st.fin n) := (h.drop n).shut fun f _ g r hq => (PstKd.dropN _ hk).two hq
theorem dropN_last : ∀ (m : Nat) (st : Pst), st.dropN (m + 1) = (st.dropN m).drop1
  | 0, _ => rfl
  | m + 1, st => dropN_last m st.drop1
end Go.Bd
namespace Go.Proofs.YtmdbhdhfdldegaaGreatDoor
open Go.RowKit Go.Bd
section
variable {w w' : World} {B : Nat} {col col' : Nat → Nat} {pb ob cap len : Nat} {s : ByteArray} {st : Pst} {fv : Value} {cs : Array Value}
set_option maxRecDepth 100000 in
set_option maxHeartbeats 4000000 in
theorem rcloses_any (h : RSx w B col pb ob cap st.fs.length s st fv cs) (ok : PstOk st) (kd : PstKd st) (i0 : Nat) (hI : Inv st i0) (hi0 : i0 ≤ 100000) (n : Nat) (h0 : 0 < n) (hn : n < st.fs.length) :
    Calls Tryz.prog 42 #[.pointer (some ⟨pb, 0, none⟩), .int .i64 (n : Int)] w fun e w' => e = .returned (.tuple #[]) ∧
      ∃ col' fv' cs', RSx w' B col' pb ob cap (st.fin n).fs.length s (st.fin n) fv' cs' ∧ Stay B w w' col col' := by
  have hl17 := hI.2.2.2
  obtain ⟨K, hK⟩ : ∃ K, st.fs.length - 1 - n = K := ⟨_, rfl⟩
  have HH := Lib.hid (And.intro ok (And.intro kd (And.intro hI h)))
  have HK := Lib.hid hK
  have hKn : K + n + 1 = st.fs.length := by omega
  clear ok kd hI h hK
  go_enter Tryz.func42, Tryz.ntmps42
  go_wp2_with fail
  go_loopg [] K (fun q wr => ∃ m : Nat, m + q = K ∧ Hid (∃ colk fvk csk, RSx wr B colk pb ob cap (st.dropN m).fs.length s (st.dropN m) fvk csk ∧ Stay B w wr col colk))
  case atStart => exact ⟨0, by omega, Lib.hid ⟨_, _, _, HH.out.2.2.2, Stay.refl _ _ _⟩⟩
  case round =>
    obtain ⟨m, hm, HS⟩ := hrel
    obtain ⟨colk, fvk, csk, hk1, hk2⟩ := HS.out
    obtain ⟨hIm, hlm⟩ := Inv.dropN m HH.out.2.2.1 (by omega)
    have hlm2 : (st.dropN m).fs.length = gk + n + 1 := by omega
    have p1 := hk1.hp.cell 1
    simp at p1
    rw [hlm2] at p1
    clear HS
    by_cases hlt : 0 < gk
    · obtain ⟨f, g, r, hfs⟩ : ∃ f g r, (st.dropN m).fs = f :: g :: r := by
        match hq : (st.dropN m).fs, hlm2 with
        | f :: g :: r, _ => exact ⟨f, g, r, rfl⟩
        | [f], hq2 => simp at hq2; omega
        | [], hq2 => simp at hq2
      have hfl := rfails_any hk1 hfs (PstOk.dropN m HH.out.1) i0 hIm hi0
      rw [← dropN_last] at hfl
      have HFL := Lib.hid hfl
      have HK2 := Lib.hid hk2
      clear hfl hk1 hk2 hIm hfs
      go_wp2_with (go_at_call 44; refine HFL.out.mono ?_; rintro e W5 ⟨rfl, col5, fv5, cs5, h7, st7⟩; have H7 := Lib.hid (And.intro h7 (HK2.out.trans st7)); clear h7 st7)
      go_roundg (gk - 1)
      case measure => omega
      case rel => exact ⟨m + 1, by omega, Lib.hid ⟨_, _, _, H7.out.1, H7.out.2⟩⟩
    · obtain rfl : gk = 0 := by omega
      obtain rfl : m = K := by omega
      have hdn : st.dropN m = st.drop n := by unfold Pst.drop; rw [HK.out]
      rw [Nat.zero_add] at hlm2 p1
      obtain ⟨f, g, r, hfs⟩ : ∃ f g r, (st.dropN m).fs = f :: g :: r := by
        match hq : (st.dropN m).fs, hlm2 with
        | f :: g :: r, _ => exact ⟨f, g, r, rfl⟩
        | [f], hq2 => simp at hq2; omega
        | [], hq2 => simp at hq2
      have hgl : (g :: r).length = n := by rw [hfs] at hlm2; simp at hlm2; rw [List.length_cons]; omega
      rw [hlm2] at hk1
      obtain ⟨col1, sv, e0, e1, e2, e3, h1, st1, hF1⟩ := hk1.pop hfs
      rw [hgl] at e0 e1 e2 e3
      obtain ⟨As, ac, rfl, hac, _⟩ := hF1.form
      have q0 := (hk1.ho.cell (n * 4)).trans e0
      have q1 := (hk1.ho.cell (n * 4 + 1)).trans e1
      have q2 := (hk1.ho.cell (n * 4 + 2)).trans e2
      have q3 := (hk1.ho.cell (n * 4 + 3)).trans e3
      have p2 := hk1.hp.free 1
      have hpw := hk1.hp.lt
      have how := hk1.ho.lt
      have hcap := hk1.hcap
      unfold strV at q2
      clear e0 e1 e2 e3
      have hcu := h1.cut (n := n) (by show (g :: r).length ≤ n; omega) (by omega)
      have hkp : RSx ((wr.setCell ⟨pb, 1, none⟩ (.slice (some ⟨ob, 0, none⟩) n cap)).alloc (.cells #[.int .u8 (f.kind : Int), .int .i64 (f.at' : Int), .string ⟨f.sign.toArray⟩, .slice As f.row.flush.sp.length ac] 79)) B col1 pb ob cap n s { (st.dropN m) with fs := g :: r } fvk csk := hcu.1.keep (S := fun _ => False) ((Chg.refl _ _).alloc _) (fun _ h => h.elim)
      have stA : Stay B wr ((wr.setCell ⟨pb, 1, none⟩ (.slice (some ⟨ob, 0, none⟩) n cap)).alloc (.cells #[.int .u8 (f.kind : Int), .int .i64 (f.at' : Int), .string ⟨f.sign.toArray⟩, .slice As f.row.flush.sp.length ac] 79)) col1 col1 := hcu.2.trans ⟨(Below.refl _ _).alloc (by have := h1.hpB; have := h1.hp.lt; simp [World.setCell]; omega) _, fun c b hc hb hl => ⟨hb, Below.heap_alloc _ _ b hl⟩⟩
      have hF2 := stA.forest hF1
      have hkd := (PstKd.dropN m HH.out.2.1).two hfs
      have hokg := (PstOk.dropN m HH.out.1) g (by rw [hfs]; simp)
      have hwt : wtF f + (wtF g + wtFs r) ≤ i0 := by
        have := hIm.1
        rw [hfs, wtFs_cons, wtFs_cons] at this
        exact this
      have hwg : wtR g.row ≤ 1000000 := by unfold wtF at hwt; omega
      have hrl : r.length ≤ 1000 := by rw [List.length_cons] at hgl; omega
      have hsh : ({ (st.dropN m) with fs := g :: r } : Pst).top (·.add ⟨f.kind, [], [], [], f.row.flush.sp⟩) = st.fin n := by
        unfold Pst.fin
        rw [← hdn]
        unfold Pst.shut
        rw [hfs]
        rfl
      have hkp2 : RSx ((wr.setCell ⟨pb, 1, none⟩ (.slice (some ⟨ob, 0, none⟩) n cap)).alloc (.cells #[.int .u8 (f.kind : Int), .int .i64 (f.at' : Int), .string ⟨f.sign.toArray⟩, .slice As f.row.flush.sp.length ac] 79)) B col1 pb ob cap ({ (st.dropN m) with fs := g :: r } : Pst).fs.length s { (st.dropN m) with fs := g :: r } fvk csk := by
        show RSx _ B col1 pb ob cap (g :: r).length s _ fvk csk
        rw [hgl]; exact hkp
      have hpt := rputTop_any hkp2 (f := g) (r := r) rfl hrl hokg hwg ⟨f.kind, [], [], [], f.row.flush.sp⟩ (fun e => absurd e hkd) (.slice As f.row.flush.sp.length ac) hF2 (fun e => absurd e hkd)
      rw [hsh] at hpt
      have HPT : Hid (Calls Tryz.prog 65 #[.pointer (some ⟨pb, 0, none⟩), .agg #[.int .u8 (f.kind : Int), .string ⟨#[]⟩, .string ⟨#[]⟩, .string ⟨#[]⟩, .slice As f.row.flush.sp.length ac]] ((wr.setCell ⟨pb, 1, none⟩ (.slice (some ⟨ob, 0, none⟩) n cap)).alloc (.cells #[.int .u8 (f.kind : Int), .int .i64 (f.at' : Int), .string ⟨f.sign.toArray⟩, .slice As f.row.flush.sp.length ac] 79)) fun e w' => e = .returned (.tuple #[]) ∧ ∃ col' cs', RSx w' B col' pb ob cap (st.fin n).fs.length s (st.fin n) fvk cs' ∧ Stay B ((wr.setCell ⟨pb, 1, none⟩ (.slice (some ⟨ob, 0, none⟩) n cap)).alloc (.cells #[.int .u8 (f.kind : Int), .int .i64 (f.at' : Int), .string ⟨f.sign.toArray⟩, .slice As f.row.flush.sp.length ac] 79)) w' col1 col') := Lib.hid hpt
      have HS9 := Lib.hid ((hk2.trans st1).trans stA)
      clear hpt hkp hkp2 stA hF2 hcu hk1 hk2 h1 st1 hF1 hIm hlm hsh hfs hdn
      go_wp2_with fail
      refine HPT.out.mono ?_
      rintro e W5 ⟨rfl, col5, cs5, h7, st7⟩
      have H7 := Lib.hid (And.intro h7 (HS9.out.trans st7))
      clear h7 st7
      go_wp2
      go_end0
      exact ⟨rfl, _, _, _, H7.out.1, H7.out.2⟩
end
end Go.Proofs.YtmdbhdhfdldegaaGreatDoor
namespace Go.Proofs.YtmdbhdhfdldegaaGreatDoor
open Go.RowKit Go.Bd
section
variable {w : World} {B : Nat} {col : Nat → Nat} {pb ob cap len : Nat} {s : ByteArray} {st : Pst} {i : Nat} {fv : Value} {gb : Nat} {cs : Array Value} {gn : List Bs}
theorem psRow (h : PSx Tryz.prog w B col pb ob cap len s st i fv gb cs gn) : w.ownsRow B tF 5 (.slice (some ⟨ob, 0, none⟩) len cap) len (cs.toList.take (len * 5)) := by
  refine ⟨?_, .inr ⟨ob, cap, cs, rfl, h.hoB, h.ho, h.hcap, h.hmax, h.hcs, rfl⟩⟩
  have h1 := h.hcap
  have h2 := h.hcs
  have := Nat.mul_le_mul_right 5 h1
  rw [List.length_take, Array.length_toList]; omega
theorem psOfRow {P : Program} {v : Value} {n : Nat} {e : TypeId} {xs : List Value} (h : w.ownsRow B e 5 v (n + 1) xs) : ∃ ob' cap' cs', v = .slice (some ⟨ob', 0, none⟩) (n + 1) cap' ∧ Holds w ob' e cs' ∧ cs'.size = cap' * 5 ∧ n + 1 ≤ cap' ∧ cap' ≤ maxLen ∧ cs'.toList.take ((n + 1) * 5) = xs := by
  rcases h.2 with ⟨_, h0⟩ | ⟨g, cap, cur, hv, _, hh, hc, hm, hs, ht⟩
  · omega
  · exact ⟨g, cap, cur, hv, hh, hs, hc, hm, ht⟩
set_option maxRecDepth 100000 in
theorem begin_any (h : PSx Tryz.prog w B col pb ob cap len s st i fv gb cs gn) (hl : len = st.fs.length) (h2 : len ≤ 1000) (k a : Nat) (sign : Bs) :
    Calls Tryz.prog 55 #[.pointer (some ⟨pb, 0, none⟩), .int .u8 (k : Int), .int .i64 (a : Int), .string ⟨sign.toArray⟩] w fun e w' => e = .returned (.tuple #[]) ∧
      ∃ col' ob' cap' cs', PSx Tryz.prog w' B col' pb ob' cap' (len + 1) s (st.begin k a sign) i fv gb cs' gn ∧ Stay B w w' col col' := by
  have H := Lib.hid h
  have c1 := h.hp.cell 1
  have hpw := h.hp.lt
  have how := h.ho.lt
  have hB := h.hpB
  have hr := psRow h
  have hpo : (Value.slice (some ⟨ob, 0, none⟩) len cap).ownBlock ≠ some pb := fun e => by
    have h1 := h.co; have h2 := h.cp
    simp only [Value.ownBlock, Option.some.injEq] at e
    subst e; omega
  have HL := Lib.hid hl
  clear h hl
  go_enter Tryz.func55, Tryz.ntmps55
  go_wp2_with (at_builtin; refine wpList_app_el _ rfl _ _ 56 rfl B 68 (.agg #[.slice none 0 0, .slice none 0 0, .int .u8 0, .string ⟨#[]⟩, .int .i64 0]) 5 80 Tryz.underlying56 frame_info rfl (by omega) _ len (cs.toList.take (len * 5)) rfl (hr.alloc _) _ 1 [.slice none 0 0, .slice none 0 0, .int .u8 (k : Int), .string ⟨sign.toArray⟩, .int .i64 (a : Int)] rfl rfl (Holds.new w _ _) (by simp [Value.oneCell']) (by omega) (by omega) (by simp; omega) ?_)
  intro v1 w1 ho1 hg1 hn1
  have hch1 := Chg.grown hg1
  have hp1 := hch1.holds (fun e => hpo e.symm) (H.out.hp.alloc (.cells #[.slice none 0 0, .slice none 0 0, .int .u8 (k : Int), .string ⟨sign.toArray⟩, .int .i64 (a : Int)] 68))
  have d2 := hp1.cell 1
  have d3 := hp1.free 1
  obtain ⟨ob', cap', cs', rfl, hho, hcs', hcap', hmax', htk⟩ := psOfRow (P := Tryz.prog) ho1
  have HN := Lib.hid hn1
  have HT := Lib.hid htk
  clear hn1 ho1 htk
  go_wp2
  go_end0
  refine ⟨rfl, ?_⟩
  have hnear : ob' = ob ∨ w.heap.size ≤ ob' := by
    rcases HN.out with h | h
    · exact .inl (by simpa [Value.ownBlock] using h)
    · simp [Value.ownBlock] at h; exact .inr (by omega)
  have hpb' : ob' ≠ pb := fun e => by
    rcases hnear with h | h
    · exact hpo (by rw [← h, e]; rfl)
    · omega
  have hch : Chg w (w1.setCell ⟨pb, 1, none⟩ (.slice (some ⟨ob', 0, none⟩) (len + 1) cap')) (fun b => b = pb ∨ b = ob) :=
    Chg.step (((Chg.refl w _).alloc _).trans hch1 (fun k _ h => Or.inr (by simpa [Value.ownBlock] using h))) (fun k _ e => Or.inl e)
  have hpn := hp1.set 1 (.slice (some ⟨ob', 0, none⟩) (len + 1) cap')
  have hon := hho.far (p := ⟨pb, 1, none⟩) hpb' (.slice (some ⟨ob', 0, none⟩) (len + 1) cap')
  have hle := H.out.hcap
  have hsz := H.out.hcs
  have hm5 := Nat.mul_le_mul_right 5 hle
  have hn5 := Nat.mul_le_mul_right 5 hcap'
  have hlen5 : (cs.toList.take (len * 5)).length = len * 5 := by rw [List.length_take, Array.length_toList]; omega
  have get : ∀ j, j < (len + 1) * 5 → cs'[j]? = (cs.toList.take (len * 5) ++ [.slice none 0 0, .slice none 0 0, .int .u8 (k : Int), .string ⟨sign.toArray⟩, .int .i64 (a : Int)])[j]? := fun j hj => by
    rw [← HT.out, List.getElem?_take, if_pos hj, Array.getElem?_toList]
  obtain ⟨col', h1, h2⟩ := H.out.push (f := ⟨Rw.none, k, sign, a⟩) HL.out rfl hch (fun b hb => hb) hpn hon hnear hcs' hcap' hmax'
    (fun j hj => by rw [get j (by omega), List.getElem?_append_left (by omega), List.getElem?_take, if_pos hj, Array.getElem?_toList])
    (fun j u hu => by
      have hj : j < 5 := by have := (List.getElem?_eq_some_iff.1 hu).1; simpa using this
      rw [get _ (by omega), List.getElem?_append_right (by omega), hlen5, Nat.add_sub_cancel_left]
      exact hu)
  exact ⟨col', ob', cap', cs', h1, h2⟩
theorem psRowTo (h : PSx Tryz.prog w B col pb ob cap len s st i fv gb cs gn) {f : Fr} {r : List Fr} (hfs : st.fs = f :: r) {sv tv : Value} (hfr : FrAt w B col cs r.length f sv tv) {w' : World} {row' : Rw}
    (hR : RowTo w B (col · = 4) ob (r.length * 5) cs tF sv tv row' w') : ∃ col' cs', PSx Tryz.prog w' B col' pb ob cap len s { st with fs := { f with row := row' } :: r } i fv gb cs' gn ∧ Stay B w w' col col' := by
  obtain ⟨sv', tv', k1, k2, k3, k4, k5, k6⟩ := hR
  obtain ⟨col', h1, h2⟩ := h.put hfs hfr k4 (fun b hb => hb) k1 k2 k3 k5 k6
  exact ⟨col', _, h1, h2⟩
theorem psAway (h : PSx Tryz.prog w B col pb ob cap len s st i fv gb cs gn) {f : Fr} {k : Nat} {sv tv : Value} (hfr : FrAt w B col cs k f sv tv) : sv.ownBlock ≠ some ob ∧ tv.ownBlock ≠ some ob ∧ ∀ b, col b = 4 → b < w.heap.size ∧ b ≠ ob ∧ sv.ownBlock ≠ some b ∧ tv.ownBlock ≠ some b := by
  refine ⟨fun e => ?_, fun e => ?_, fun b hb => ⟨h.lt4 hb, fun e => ?_, fun e => ?_, fun e => ?_⟩⟩
  · have := hfr.csp _ e; have := h.co; omega
  · have := hfr.ctx _ e; have := h.co; omega
  · subst e; have := h.co; omega
  · have := hfr.csp _ e; omega
  · have := hfr.ctx _ e; omega
theorem psBase (h : PSx Tryz.prog w B col pb ob cap len s st i fv gb cs gn) : B ≤ w.heap.size := by have := h.hpB; have := h.hp.lt; omega
theorem writeTop_any (h : PSx Tryz.prog w B col pb ob cap len s st i fv gb cs gn) {f : Fr} {r : List Fr} (hfs : st.fs = f :: r) (x : ByteArray) (hx : x.size ≤ 10000000) (hl : f.row.tx.length ≤ 10000000) :
    Calls Tryz.prog 48 #[.pointer (some ⟨ob, r.length * 5, none⟩), .string x] w fun e w' => e = .returned (.tuple #[]) ∧
      ∃ col' cs', PSx Tryz.prog w' B col' pb ob cap len s (st.write x.data.toList) i fv gb cs' gn ∧ Stay B w w' col col' := by
  obtain ⟨sv, tv, hfr⟩ := h.fr r.length f (by rw [hfs]; exact rev_last f r)
  obtain ⟨a1, a2, a3⟩ := psAway h hfr
  refine (write_any ob (r.length * 5) cs tF tv f.row.tx x w B h.ho hfr.c1 hfr.tx a2 (psBase h) hl hx).mono ?_
  rintro e w' ⟨he, tv', k1, k2, k3, k4⟩
  refine ⟨he, ?_⟩
  have hR : RowTo w B (col · = 4) ob (r.length * 5) cs tF sv tv (f.row.write x.data.toList) w' := by
    refine ⟨sv, tv', by rw [set_same hfr.c0]; exact k1, ?_, k2, k3.mono (fun k _ h => by rcases h with h | h; exact .inl h; exact .inr (.inr h)), fun k h => .inl h, fun k hk => k4.old k hk⟩
    refine hfr.sp.chg k3 (fun _ h => h) (fun b hb h => by have := a3 b hb; rcases h with h | h; exact this.2.1 h; exact this.2.2.2 h) (fun b hb h => ?_)
    rcases h with h | h
    · exact a1 (by rw [hb, h])
    · have := hfr.csp b hb; have := hfr.ctx b h; omega
  obtain ⟨col', cs', h1, h2⟩ := psRowTo h hfs hfr hR
  refine ⟨col', cs', ?_, h2⟩
  have e : st.write x.data.toList = { st with fs := { f with row := f.row.write x.data.toList } :: r } := by simp [Pst.write, Pst.top, onTop, hfs]
  rw [e]; exact h1
theorem addTop_any (h : PSx Tryz.prog w B col pb ob cap len s st i fv gb cs gn) {f : Fr} {r : List Fr} (hfs : st.fs = f :: r) (x : Sp) (kv : Value) (hx : Forest w (col · = 4) kv x.kids) (hxt : x.kind = 0 → x.text.length ≤ 1000000) (hl : f.row.sp.length ≤ 1000000) (hl2 : f.row.tx.length ≤ 1000000) :
    Calls Tryz.prog 60 #[.pointer (some ⟨ob, r.length * 5, none⟩), .agg #[.int .u8 (x.kind : Int), strV x.text, strV x.sub, strV x.see, kv]] w fun e w' => e = .returned (.tuple #[]) ∧
      ∃ col' cs', PSx Tryz.prog w' B col' pb ob cap len s (st.top (·.add x)) i fv gb cs' gn ∧ Stay B w w' col col' := by
  obtain ⟨sv, tv, hfr⟩ := h.fr r.length f (by rw [hfs]; exact rev_last f r)
  obtain ⟨a1, a2, a3⟩ := psAway h hfr
  refine (add_any ob (r.length * 5) cs tF sv tv f.row x kv w B (col · = 4) h.ho hfr.c0 hfr.c1 hfr.sp hfr.tx a1 a2 a3 (psBase h) hl hl2 hx hxt).mono ?_
  rintro e w' ⟨he, hR⟩
  obtain ⟨col', cs', h1, h2⟩ := psRowTo h hfs hfr hR
  refine ⟨he, col', cs', ?_, h2⟩
  have e : st.top (·.add x) = { st with fs := { f with row := f.row.add x } :: r } := by simp [Pst.top, onTop, hfs]
  rw [e]; exact h1
theorem flushTop_any (h : PSx Tryz.prog w B col pb ob cap len s st i fv gb cs gn) {f : Fr} {r : List Fr} (hfs : st.fs = f :: r) (hl : f.row.sp.length ≤ 1000000) (hl2 : f.row.tx.length ≤ 1000000) :
    Calls Tryz.prog 29 #[.pointer (some ⟨ob, r.length * 5, none⟩)] w fun e w' => e = .returned (.tuple #[]) ∧
      ∃ col' cs', PSx Tryz.prog w' B col' pb ob cap len s (st.top (·.flush)) i fv gb cs' gn ∧ Stay B w w' col col' := by
  obtain ⟨sv, tv, hfr⟩ := h.fr r.length f (by rw [hfs]; exact rev_last f r)
  obtain ⟨a1, a2, a3⟩ := psAway h hfr
  refine (flush_any ob (r.length * 5) cs tF sv tv f.row w B (col · = 4) h.ho hfr.c0 hfr.c1 hfr.sp hfr.tx a1 a2 a3 (psBase h) (by omega) (by omega)).mono ?_
  rintro e w' ⟨he, sv', tv', k1, k2, k3, k4, k5, k6⟩
  have hft : f.row.flush.tx = [] := by unfold Rw.flush; split <;> rfl
  have hR : RowTo w B (col · = 4) ob (r.length * 5) cs tF sv tv f.row.flush w' := ⟨sv', tv', k1, k2, by rw [hft]; exact k3, k4, k5, fun k hk => .inl (k6 k hk)⟩
  obtain ⟨col', cs', h1, h2⟩ := psRowTo h hfs hfr hR
  refine ⟨he, col', cs', ?_, h2⟩
  have e : st.top (·.flush) = { st with fs := { f with row := f.row.flush } :: r } := by simp [Pst.top, onTop, hfs]
  rw [e]; exact h1
end
end Go.Proofs.YtmdbhdhfdldegaaGreatDoor
namespace Go.Bd
open Go.RowKit
theorem dropN_next : ∀ (m : Nat) (st : Pst), st.dropN (m + 1) = (st.dropN m).drop1
  | 0, _ => rfl
  | m + 1, st => by rw [Pst.dropN, dropN_next m st.drop1]; rfl
theorem wp_scope_label {P : Program} {a : Act} {w : World} {Q : Exit → Act → World → Prop} {rest : Code} (l : Nat) (J : Act → World → Prop) (μ : Act → World → Nat) (h0 : J a w)
    (pass : ∀ a w, J a w → rest.wp P (Exit.jump l (fun a' w' => J a' w' ∧ μ a' w' < μ a w) Q) a w) : (Code.scope ((Code.label l).seq rest)).wp P Q a w := by
  refine wp_scope_jumps (rest := Code.seq .skip rest) l J μ (by simp [findLabel]) ?_ (fun a w hJ => wp_seq (wp_skip (pass a w hJ)))
  refine wp_seq (wp_label ?_)
  refine Code.wp_mono (fun e a w h => ?_) (pass a w h0)
  cases e <;> first | exact h | exact ⟨h.1, h.2.1⟩
theorem Stay.undrew {w w' : World} {B k : Nat} {col col' : Nat → Nat} (h : Stay B (w.drewN k) w' col col') : Stay B w w' col col' :=
  ⟨(Go.below_drewN (Below.refl B w) k).trans h.below, h.tree⟩
def addsTo (g : Fr) (sign : Bs) (l : List Sp) (j : Nat) : Rw := (l.take j).foldl Rw.add (g.row.write sign)
theorem addsTo_next {g : Fr} {sign : Bs} {l : List Sp} {j : Nat} {x : Sp} (h : l[j]? = some x) : addsTo g sign l (j + 1) = (addsTo g sign l j).add x := by
  unfold addsTo
  rw [List.take_add_one, h, List.foldl_append]; rfl
theorem addsTo_bound {g : Fr} {sign : Bs} {l : List Sp} {N : Nat} (h : wtL l + sign.length + (wtL g.row.sp + g.row.tx.length) ≤ N) (j : Nat) : (addsTo g sign l j).sp.length ≤ N ∧ (addsTo g sign l j).tx.length ≤ N := by
  have h1 := wtR_adds (l.take j) (g.row.write sign)
  have h2 : wtL (l.take j) ≤ wtL l := by
    have := wtL_app (l.take j) (l.drop j)
    rw [List.take_append_drop] at this; omega
  rw [wtR_write] at h1
  have h3 := wtL_len (addsTo g sign l j).sp
  have h4 : wtR (addsTo g sign l j) = wtL (addsTo g sign l j).sp + (addsTo g sign l j).tx.length := rfl
  have h5 : wtR g.row = wtL g.row.sp + g.row.tx.length := rfl
  change wtR (addsTo g sign l j) ≤ _ at h1
  omega
theorem kind0_bound {l : List Sp} {N : Nat} (h : wtL l ≤ N) {j : Nat} {x : Sp} (hx : l[j]? = some x) (hk : x.kind = 0) : x.text.length ≤ N := by
  have h1 := wtL_app (l.take j) (l.drop j)
  rw [List.take_append_drop] at h1
  obtain ⟨hj, e⟩ := List.getElem?_eq_some_iff.1 hx
  rw [List.drop_eq_getElem_cons hj, e] at h1
  have h2 : wtL (x :: l.drop (j + 1)) = wtS x + wtL (l.drop (j + 1)) := by simp [wtL]
  have h3 : wtS x = max 1 x.text.length := by unfold wtS; rw [if_pos hk]
  omega
theorem own_app_bytes {P : Program} (w : World) (B B' : Nat) (t ty e : TypeId) (ht : P.underlying t = some (.slice e)) (hi : (P.info? e).map (fun i => (i.zero, i.size, i.bytes)) = some (some (.int .u8 0), 1, 1))
    (v u : Value) (n m : Nat) (xs ys : List Value) (hown : w.ownsRow B e 1 v n xs) (hsrc : w.ownsRow B' e 1 u m ys) (h1 : ∀ x ∈ ys, x.oneCell' = true) (hb : n + m ≤ 140737488355328) (hbase : B ≤ w.heap.size) :
    ∃ v' w', (Builtin.append_ #[t, t] ty #[v, u]).run P w = .ok v' w' ∧ w'.ownsRow B e 1 v' (n + m) (xs ++ ys) ∧ w.grownBy w' v.ownBlock ∧ Near w v v' := by
  obtain ⟨i, hi, h2, h3, h4⟩ := info_parts hi
  rcases hsrc.2 with ⟨rfl, rfl⟩ | ⟨g, cap, cur, rfl, hg, hh, hc, hm, hs, htk⟩
  · have hy : ys = [] := List.eq_nil_of_length_eq_zero (by have := hsrc.1; simpa using this)
    subst hy
    refine ⟨v, w, run_append_owned_none (P := P) (w := w) B t ty e i 1 ht hi v n xs hown, by simpa using hown, ⟨rfl, rfl, rfl, Nat.le_refl _, fun _ _ _ => rfl⟩, .inl rfl⟩
  · obtain ⟨v', w', k1, k2, k3, _, k5⟩ := run_append_own_at (P := P) w B t ty e i (.int .u8 0) 1 1 ht hi h2 h3 h4 rfl (by decide) v n xs hown ⟨g, 0, none⟩ m cap ys (by have := hsrc.1; omega) (fun j u hj => hsrc.cells (g := g) rfl j u hj) h1 (by unfold maxLen; omega) (by omega) hbase
    exact ⟨v', w', k1, k2, k3, k5⟩
theorem step_app_bytes {P : Program} {ops : Array Oper} {o : Oper} {a : Act} {w : World} {K : Act → World → Prop} {Q : Exit → Act → World → Prop} {E : Prop} (hgd : o.guard = none) (s x : Operand) (t : TypeId)
    (ho : o.op = .call { callee := .builtin .append, args := #[s, x], argTypes := #[t, t] }) (B B' : Nat) (e : TypeId) (ht : P.underlying t = some (.slice e)) (hi : (P.info? e).map (fun i => (i.zero, i.size, i.bytes)) = some (some (.int .u8 0), 1, 1))
    (v u : Value) (n m : Nat) (xs ys : List Value) (hs : a.eval s = v) (hx : a.eval x = u) (hown : w.ownsRow B e 1 v n xs) (hsrc : w.ownsRow B' e 1 u m ys) (h1 : ∀ x ∈ ys, x.oneCell' = true) (hb : n + m ≤ 140737488355328) (hbase : B ≤ w.heap.size)
    (h : ∀ v' w', w'.ownsRow B e 1 v' (n + m) (xs ++ ys) → w.grownBy w' v.ownBlock → Near w v v' → K (a.put o.dst v') w') :
    if Region.wanted o (yielded ops a.tmps) = true then Oper.wp P o a w K Q else E := by
  have hw : Region.wanted o (yielded ops a.tmps) = true := by simp [Region.wanted, hgd]
  rw [if_pos hw]
  obtain ⟨v', w', hr, k2, k3, k4⟩ := own_app_bytes (P := P) w B B' t o.type e ht hi v u n m xs ys hown hsrc h1 hb hbase
  unfold Oper.wp execOp
  simp only [ho, resolve, invoke, builtin, Sem.run_bind, Sem.run_pure, Result.andThen_ok, List.map_toArray, List.map_cons, List.map_nil, hs, hx, hr]
  exact h v' w' k2 k3 k4
end Go.Bd
namespace Go.Proofs.YtmdbhdhfdldegaaGreatDoor
open Go.RowKit Go.Bd
def DropJ (w0 : World) (B : Nat) (col0 : Nat → Nat) (pb ob cap len : Nat) (s : ByteArray) (st : Pst) (i gb : Nat) (gn : List Bs) (n : Nat) (a' : Act) (w' : World) : Prop :=
  ∃ (m : Nat) (col' : Nat → Nat) (fv' : Value) (cs' : Array Value) (u2 u3 u4 u5 u6 u7 u8 u9 u10 u11 u12 u13 u14 u15 u16 u17 u18 u19 u20 u21 u22 u23 u24 u25 u26 u27 u28 u29 u30 u31 u32 u33 u34 u35 u36 u37 u38 u39 u40 u41 u42 u43 u44 u45 u46 u47 u48 u49 u50 u51 u52 u53 u54 u55 u56 u57 u58 u59 u60 u61 u62 u63 u64 u65 u66 u67 u68 u69 u70 u71 u72 : Value), n + 1 + m ≤ len ∧ a' = { tmps := #[.pointer (some ⟨pb, 0, none⟩), .int .i64 (n : Int), u2, u3, u4, u5, u6, u7, u8, u9, u10, u11, u12, u13, u14, u15, u16, u17, u18, u19, u20, u21, u22, u23, u24, u25, u26, u27, u28, u29, u30, u31, u32, u33, u34, u35, u36, u37, u38, u39, u40, u41, u42, u43, u44, u45, u46, u47, u48, u49, u50, u51, u52, u53, u54, u55, u56, u57, u58, u59, u60, u61, u62, u63, u64, u65, u66, u67, u68, u69, u70, u71, u72], defers := [] } ∧
    PSx Tryz.prog w' B col' pb ob cap (len - m) s (st.dropN m) i fv' gb cs' gn ∧ Stay B w0 w' col0 col'
def openLen (pb : Nat) (_ : Act) (w : World) : Nat := match w.cell? ⟨pb, 1, none⟩ with | some (.slice _ l _) => l | _ => 0
section
variable {w : World} {B : Nat} {col : Nat → Nat} {pb ob cap len : Nat} {s : ByteArray} {st : Pst} {i : Nat} {fv : Value} {gb : Nat} {cs : Array Value} {gn : List Bs}
set_option maxRecDepth 100000 in
set_option maxHeartbeats 2000000 in
theorem drop_any (h : PSx Tryz.prog w B col pb ob cap len s st i fv gb cs gn) (hl : len = st.fs.length) (n : Nat) (hn : n < len) (i0 : Nat) (hI : Inv st i0) (hi0 : i0 ≤ 100000) :
    Calls Tryz.prog 27 #[.pointer (some ⟨pb, 0, none⟩), .int .i64 (n : Int)] w fun e w' => e = .returned (.tuple #[]) ∧
      ∃ col' fv' cs', PSx Tryz.prog w' B col' pb ob cap (n + 1) s (st.drop n) i fv' gb cs' gn ∧ Stay B w w' col col' := by
  have HL := Lib.hid hl
  have HI := Lib.hid hI
  clear hl hI
  go_enter Tryz.func27, Tryz.ntmps27
  go_wp2
  refine wp_scope_label 0 (DropJ w B col pb ob cap len s st i gb gn n) (openLen pb) ⟨0, col, fv, cs, _, _, _, _, _, _, _, _, _, _, _, _, _, _, _, _, _, _, _, _, _, _, _, _, _, _, _, _, _, _, _, _, _, _, _, _, _, _, _, _, _, _, _, _, _, _, _, _, _, _, _, _, _, _, _, _, _, _, _, _, _, _, _, _, _, _, _, _, _, _, _, by omega, rfl, h, Stay.refl _ _ _⟩ ?_
  clear h
  rintro a' wz ⟨m, col1, fv1, cs1, u2, u3, u4, u5, u6, u7, u8, u9, u10, u11, u12, u13, u14, u15, u16, u17, u18, u19, u20, u21, u22, u23, u24, u25, u26, u27, u28, u29, u30, u31, u32, u33, u34, u35, u36, u37, u38, u39, u40, u41, u42, u43, u44, u45, u46, u47, u48, u49, u50, u51, u52, u53, u54, u55, u56, u57, u58, u59, u60, u61, u62, u63, u64, u65, u66, u67, u68, u69, u70, u71, u72, hm, rfl, h, hst⟩
  obtain ⟨L, hL⟩ : ∃ L, len - m = L + 1 := ⟨len - m - 1, by omega⟩
  rw [hL] at h
  have H := Lib.hid h
  have HS := Lib.hid hst
  have hmd := (HI.out.dropN m (by have := HL.out; omega))
  obtain ⟨hI1, hlen1⟩ := hmd
  have hlen2 : (st.dropN m).fs.length = L + 1 := by have := HL.out; omega
  have HLL := Lib.hid hL
  clear hL hst
  have c1 := h.hp.cell 1
  have c2 := h.hp.free 1
  have hpw := h.hp.lt
  have hcapL := h.hcap
  have hcapL2 : L ≤ cap := by omega
  have hLb : L ≤ 16 := by have := hI1.2.2.2; omega
  have hnL1 : n ≤ L := by have := HLL.out; omega
  by_cases hnL : n = L
  · have hnL2 : (L : Int) ≤ (n : Int) := by omega
    clear h
    go_wp2
    simp only [Exit.jump]
    refine bodyPost_ret (results_none rfl _ _ _) rfl ?_
    have hm2 : len - 1 - n = m := by have := HLL.out; omega
    refine ⟨rfl, col1, fv1, cs1, ?_, HS.out⟩
    have e : st.drop n = st.dropN m := by unfold Pst.drop; rw [← HL.out, hm2]
    rw [e, hnL]
    exact H.out
  · have hlt : ¬ ((L : Int) ≤ (n : Int)) := by omega
    obtain ⟨f, g, r, hfs⟩ : ∃ f g r, (st.dropN m).fs = f :: g :: r := by
      match hq : (st.dropN m).fs, hlen2 with
      | f :: g :: r, _ => exact ⟨f, g, r, rfl⟩
      | [f], hq2 => simp at hq2; omega
      | [], hq2 => simp at hq2
    have hLr : L = r.length + 1 := by rw [hfs] at hlen2; simpa using hlen2.symm
    obtain ⟨sv, tv, hfr⟩ := h.fr (g :: r).length f (by rw [hfs]; exact rev_last f (g :: r))
    obtain ⟨q0, q1, q2, q3, q4⟩ := frame_cells hfr h.ho
    rw [List.length_cons, ← hLr] at q0 q1 q2 q3 q4
    obtain ⟨colB, sv', tv', e0, e1, _, _, _, hB, stB, hspB, htxB, hcs, hct⟩ := h.pop hfs 4
    rw [hfr.c0] at e0
    cases e0
    rw [hfr.c1] at e1
    cases e1
    obtain ⟨hC, stC⟩ := hB.cut (n := L) (by simp only [List.length_cons]; omega) (by omega)
    obtain ⟨colD, hD, stD, h8, _⟩ := hC.local (.cells #[sv, tv, .int .u8 (f.kind : Int), strV f.sign, .int .i64 (f.at' : Int)] 68)
    have hsz : (wz.setCell ⟨pb, 1, none⟩ (.slice (some ⟨ob, 0, none⟩) L cap)).heap.size = wz.heap.size := by simp
    have hFB := Holds.new (wz.setCell ⟨pb, 1, none⟩ (.slice (some ⟨ob, 0, none⟩) L cap)) 68 #[sv, tv, .int .u8 (f.kind : Int), strV f.sign, .int .i64 (f.at' : Int)]
    rw [hsz] at hFB h8
    have hSP := hspB.forest (G := (colB · = 4)) (fun _ h => h) (fun b hb => hcs b hb)
    replace hSP := stD.forest (stC.forest hSP)
    obtain ⟨htxC, hctC⟩ := stC.text htxB hct
    obtain ⟨htxD, hctD⟩ := stD.text htxC hctC
    have HST := Lib.hid (((HS.out.trans stB).trans stC).trans stD)
    obtain ⟨An, cn, rfl, hcn⟩ := hspB.form
    obtain ⟨At, ct, rfl, hct2⟩ := own_slice htxB
    have ctl := tell_any hD f.at' 7 (by have := hI1.2.1; simp only; omega)
    have HA8 := Lib.hid h8
    have HHF := Lib.hid hFB
    have HSP := Lib.hid hSP
    have HTX := Lib.hid htxD
    have HCT := Lib.hid hctD
    have HFS := Lib.hid hfs
    have HLR := Lib.hid hLr
    clear h hB hC hD hFB stB stC stD h8 hSP htxC hctC htxD hctD hspB htxB hfs hLr hcs hct hfr hsz
    unfold strV at q3 ctl
    go_wp2_with fail
    refine ctl.mono ?_
    clear ctl
    rintro e w2 ⟨rfl, colE, fvE, hE, stE⟩
    obtain ⟨h8E, hFE⟩ := stE.holds HA8.out HHF.out
    have hSE := stE.forest HSP.out
    obtain ⟨htE, hcE⟩ := stE.text HTX.out HCT.out
    have HST2 := Lib.hid (HST.out.trans stE)
    have HS8 := Lib.hid h8E
    have HSF := Lib.hid hFE
    have HSS := Lib.hid hSE
    have HST3 := Lib.hid htE
    have HSC := Lib.hid hcE
    have q33 := hFE.cell 3
    have hEL : PSx Tryz.prog w2 B colE pb ob cap (r.length + 1) s (({ st.dropN m with fs := g :: r } : Pst).tell f.at' 7) i fvE gb cs1 gn := by
      rw [← HLR.out]; exact hE
    have HE := Lib.hid hEL
    clear hE stE h8E hFE hSE htE hcE hEL HA8 HHF HSP HTX HCT HST HS q0 q1 q2 q3 q4
    go_wp2_with fail
    refine (top_any HE.out (by have := HLR.out; omega)).mono ?_
    rintro e w3 ⟨rfl, kk, rfl⟩
    have HED : Hid (∀ k, PSx Tryz.prog (w2.drewN k) B colE pb ob cap (r.length + 1) s (({ st.dropN m with fs := g :: r } : Pst).tell f.at' 7) i fvE gb cs1 gn) := fun k => PSx.drewN HE.out k
    have hwt : wtF f + (wtF g + wtFs r) ≤ i0 := by
      have := hI1.1
      rw [HFS.out, wtFs_cons, wtFs_cons] at this
      exact this
    have hwf : wtL f.row.sp + f.row.tx.length + f.sign.length + (wtL g.row.sp + g.row.tx.length) ≤ 100000 := by
      unfold wtF wtR at hwt
      omega
    have hwl := wtL_len f.row.sp
    go_wp2_with fail
    refine wp_region_held_drew (S := (fun w' => w'.cell? ⟨wz.heap.size, 3, none⟩ = some (.string ⟨f.sign.toArray⟩))) (by kernel_rfl) ?_ (fun hHeld0 => ?_)
    · (try dsimp only)
      first | exact q33 | exact q43
    refine wpAnyH_take (i := 0) (v := ?_) rfl (by kernel_rfl) (by kernel_rfl) (by kernel_rfl) (fun _ _ _ h => h) (Or.inl ⟨by kernel_rfl, ?_⟩) (by assumption) ?_
    rotate_left
    · (intro w hSw; (try dsimp only at hSw); go_simp; (first | done | with_reducible rfl))
    (try simp only [Act.put, List.setIfInBounds_toArray, List.set_cons_zero, List.set_cons_succ])
    refine wpAnyH_take (i := 1) (v := ?_) rfl (by kernel_rfl) (by kernel_rfl) (by kernel_rfl) (fun _ _ _ h => h) (Or.inl ⟨by kernel_rfl, ?_⟩) (by assumption) ?_
    rotate_left
    · (intro w hSw; (try dsimp only at hSw); go_simp; (first | done | with_reducible rfl))
    (try simp only [Act.put, List.setIfInBounds_toArray, List.set_cons_zero, List.set_cons_succ])
    refine wpAnyH_take (i := 2) (v := ?_) rfl (by kernel_rfl) (by kernel_rfl) (by kernel_rfl) (fun _ _ _ h => h) (Or.inl ⟨by kernel_rfl, ?_⟩) (by assumption) ?_
    rotate_left
    · (intro w hSw; (try dsimp only at hSw); go_simp; (first | done | with_reducible rfl))
    (try simp only [Act.put, List.setIfInBounds_toArray, List.set_cons_zero, List.set_cons_succ])
    refine wpAnyH_take (i := 3) (v := ?_) rfl (by kernel_rfl) (by kernel_rfl) (by kernel_rfl) (fun _ _ _ h => h) (Or.inl ⟨by kernel_rfl, ?_⟩) (by assumption) ?_
    rotate_left
    · (intro w hSw; (try dsimp only at hSw); go_simp; (first | done | with_reducible rfl))
    (try simp only [Act.put, List.setIfInBounds_toArray, List.set_cons_zero, List.set_cons_succ])
    refine wpAnyH_take (i := 4) (v := ?_) rfl (by kernel_rfl) (by kernel_rfl) (by kernel_rfl) (fun _ _ _ h => h) (Or.inl ⟨by kernel_rfl, ?_⟩) (by assumption) ?_
    rotate_left
    · (intro w hSw; (try dsimp only at hSw); go_simp; (first | done | with_reducible rfl))
    (try simp only [Act.put, List.setIfInBounds_toArray, List.set_cons_zero, List.set_cons_succ])
    refine wpAnyH_ready (rs := [5]) (by kernel_rfl) (by simp) ?_
    refine AllReadyH.cons rfl (fun K hK => ?_) AllReadyH.nil
    go_simp
    refine (writeTop_any (HED.out _) (f := g) (r := r) rfl ⟨f.sign.toArray⟩ (by rw [size_mk]; omega) (by omega)).mono ?_
    rintro e w4 ⟨rfl, colF, csF, hF, stF⟩
    have stF2 : Stay B w2 w4 colE colF := stF.undrew
    obtain ⟨h8F, hFF⟩ := stF2.holds HS8.out HSF.out
    have hSS := stF2.forest HSS.out
    obtain ⟨htF, hcF⟩ := stF2.text HST3.out HSC.out
    have HST4 := Lib.hid (HST2.out.trans stF2)
    have q43 := hFF.cell 3
    have q40 := hFF.cell 0
    have q41 := hFF.cell 1
    have H48 := Lib.hid h8F
    have H4F := Lib.hid hFF
    have H4S := Lib.hid hSS
    have H4T := Lib.hid htF
    have H4C := Lib.hid hcF
    have H4P := Lib.hid hF
    clear hF stF stF2 h8F hFF hSS htF hcF
    go_wp2_with fail
    refine hK.out _ _ ?_ (fun hHeld1 => ?_)
    · (try dsimp only)
      first | exact q33 | exact q43
    clear hK K hHeld0
    (try simp only [Act.put, List.setIfInBounds_toArray, List.set_cons_zero, List.set_cons_succ])
    refine wpAnyH_done (by kernel_rfl) ?_ _
    clear hHeld1 q33 q43
    go_wp2
    have hab := fun j => addsTo_bound (g := g) (sign := f.sign) (l := f.row.sp) (N := 100000) (by omega) j
    have HAB := Lib.hid hab
    have HKB := Lib.hid (fun (j : Nat) x (hx : f.row.sp[j]? = some x) (hk : x.kind = 0) => kind0_bound (N := 100000) (by omega) hx hk)
    clear hab
    have hfl : f.row.sp.length ≤ 100000 := by omega
    have HFA : Hid ((({ st.dropN m with fs := g :: r } : Pst).tell f.at' 7).faults = (st.dropN m).faults ++ [(f.at', 7)]) := rfl
    have HP0 : Hid (PSx Tryz.prog w4 B colF pb ob cap (r.length + 1) s ⟨{ g with row := addsTo g f.sign f.row.sp 0 } :: r, (st.dropN m).faults ++ [(f.at', 7)]⟩ i fvE gb csF gn) := H4P.out
    clear H4P
    go_loopg [50] f.row.sp.length (fun q idx wz => ∃ (j : Nat) (colG : Nat → Nat) (csG : Array Value), j + q = f.row.sp.length ∧ idx = .int .i64 j ∧ Hid (PSx Tryz.prog wz B colG pb ob cap (r.length + 1) s ⟨{ g with row := addsTo g f.sign f.row.sp j } :: r, (st.dropN m).faults ++ [(f.at', 7)]⟩ i fvE gb csG gn) ∧ Hid (Stay B w4 wz colF colG))
    case atStart => exact ⟨0, colF, csF, by omega, rfl, HP0, Stay.refl _ _ _⟩
    case round =>
      obtain ⟨j, colG, csG, hj, rfl, HG, HGS⟩ := hrel
      by_cases hjl : j < f.row.sp.length
      · obtain ⟨x, hx⟩ : ∃ x, f.row.sp[j]? = some x := ⟨_, List.getElem?_eq_getElem hjl⟩
        have hfo := HGS.out.forest H4S.out
        obtain ⟨A', c', ev, _, hform⟩ := hfo.form
        obtain ⟨bb, off, kv, rfl, hbb, hkv, x0, x1, x2, x3, x4⟩ := hform j x hx
        cases ev
        have HXN := Lib.hid (addsTo_next (g := g) (sign := f.sign) hx)
        have HXB := Lib.hid (HKB.out j x hx)
        obtain ⟨Ak, ck, rfl, hck, _⟩ := hkv.form
        unfold strV at x1 x2 x3
        have hbw := World.block_lt_of_cell? _ _ x0
        obtain ⟨colH, hH, stH, h8H, _⟩ := HG.out.local (.cells #[.int .u8 (x.kind : Int), .string ⟨x.text.toArray⟩, .string ⟨x.sub.toArray⟩, .string ⟨x.see.toArray⟩, .slice Ak x.kids.length ck] 32)
        have hX := Holds.new wr 32 #[.int .u8 (x.kind : Int), .string ⟨x.text.toArray⟩, .string ⟨x.sub.toArray⟩, .string ⟨x.see.toArray⟩, .slice Ak x.kids.length ck]
        have hkH := stH.forest hkv
        have HHD := Lib.hid (fun k => PSx.drewN hH k)
        have HKD : Hid (∀ k, Forest ((wr.alloc (.cells #[.int .u8 (x.kind : Int), .string ⟨x.text.toArray⟩, .string ⟨x.sub.toArray⟩, .string ⟨x.see.toArray⟩, .slice Ak x.kids.length ck] 32)).drewN k) (colH · = 4) (.slice Ak x.kids.length ck) x.kids) := fun k => hkH.keep (fun _ h => h) (fun _ _ _ h => h)
        have HSH := Lib.hid (HGS.out.trans stH)
        have H8H := Lib.hid h8H
        have HAJ := Lib.hid (HAB.out j)
        generalize hkn : x.kids.length = kn at x4 hck hX HHD HKD HSH
        have HKN := Lib.hid hkn
        clear hkn hH stH hkH h8H hkv hfo hform hx HG
        go_wp2
        refine wp_region_held_drew (S := (fun w' => w'.cell? ⟨wr.heap.size, 0, none⟩ = some (.int .u8 (x.kind : Int)) ∧ w'.cell? ⟨wr.heap.size, 1, none⟩ = some (.string ⟨x.text.toArray⟩) ∧ w'.cell? ⟨wr.heap.size, 2, none⟩ = some (.string ⟨x.sub.toArray⟩) ∧ w'.cell? ⟨wr.heap.size, 3, none⟩ = some (.string ⟨x.see.toArray⟩) ∧ w'.cell? ⟨wr.heap.size, 4, none⟩ = some (.slice Ak kn ck))) (by kernel_rfl) ?_ (fun hHeld0 => ?_)
        · (try dsimp only)
          first | exact cells5 hX2 | exact cells5 hX.drew
        refine wpAnyH_take (i := 0) (v := ?_) rfl (by kernel_rfl) (by kernel_rfl) (by kernel_rfl) (fun _ _ _ h => h) (Or.inl ⟨by kernel_rfl, ?_⟩) (by assumption) ?_
        rotate_left
        · (intro w hSw; (try dsimp only at hSw); go_simp; (first | done | with_reducible rfl))
        (try simp only [Act.put, List.setIfInBounds_toArray, List.set_cons_zero, List.set_cons_succ])
        refine wpAnyH_take (i := 1) (v := ?_) rfl (by kernel_rfl) (by kernel_rfl) (by kernel_rfl) (fun _ _ _ h => h) (Or.inl ⟨by kernel_rfl, ?_⟩) (by assumption) ?_
        rotate_left
        · (intro w hSw; (try dsimp only at hSw); go_simp; (first | done | with_reducible rfl))
        (try simp only [Act.put, List.setIfInBounds_toArray, List.set_cons_zero, List.set_cons_succ])
        refine wpAnyH_take (i := 2) (v := ?_) rfl (by kernel_rfl) (by kernel_rfl) (by kernel_rfl) (fun _ _ _ h => h) (Or.inl ⟨by kernel_rfl, ?_⟩) (by assumption) ?_
        rotate_left
        · (intro w hSw; (try dsimp only at hSw); go_simp; (first | done | with_reducible rfl))
        (try simp only [Act.put, List.setIfInBounds_toArray, List.set_cons_zero, List.set_cons_succ])
        refine wpAnyH_take (i := 3) (v := ?_) rfl (by kernel_rfl) (by kernel_rfl) (by kernel_rfl) (fun _ _ _ h => h) (Or.inl ⟨by kernel_rfl, ?_⟩) (by assumption) ?_
        rotate_left
        · (intro w hSw; (try dsimp only at hSw); go_simp; (first | done | with_reducible rfl))
        (try simp only [Act.put, List.setIfInBounds_toArray, List.set_cons_zero, List.set_cons_succ])
        refine wpAnyH_ready (rs := [4]) (by kernel_rfl) (by simp) ?_
        refine AllReadyH.cons rfl (fun K hK => ?_) AllReadyH.nil
        go_simp
        refine (addTop_any (HHD.out _) (f := { g with row := addsTo g f.sign f.row.sp j }) (r := r) rfl x (.slice Ak kn ck) (HKD.out _) (fun h => by have := HXB.out h; omega) (by have := HAJ.out.1; simp only; omega) (by have := HAJ.out.2; simp only; omega)).mono ?_
        rintro e w6 ⟨rfl, colI, csI, hI6, stI⟩
        have stI2 := stI.undrew
        obtain ⟨_, hX2⟩ := stI2.holds H8H.out hX
        have HSI := Lib.hid (HSH.out.trans stI2)
        have HI6 := Lib.hid hI6
        clear stI stI2 hI6
        go_wp2_with fail
        refine hK.out _ _ ?_ (fun hHeld1 => ?_)
        · (try dsimp only)
          first | exact cells5 hX2 | exact cells5 hX.drew
        clear hK K hHeld0
        (try simp only [Act.put, List.setIfInBounds_toArray, List.set_cons_zero, List.set_cons_succ])
        refine wpAnyH_done (by kernel_rfl) ?_ _
        clear hHeld1 hX hX2
        go_wp2
        go_roundg (gk - 1)
        case measure => omega
        case rel => exact ⟨j + 1, colI, csI, by omega, by go_num, by unfold Hid; rw [HXN.out]; exact HI6.out, HSI.out⟩
      · obtain rfl : j = f.row.sp.length := by omega
        obtain ⟨sv2, tv2, hfr2⟩ := HG.out.fr r.length { g with row := addsTo g f.sign f.row.sp f.row.sp.length } (rev_last _ r)
        obtain ⟨p0, p1, p2, p3, p4⟩ := frame_cells hfr2 HG.out.ho
        obtain ⟨a1, a2, a3⟩ := psAway HG.out hfr2
        obtain ⟨_, hFZ⟩ := HGS.out.holds H48.out H4F.out
        obtain ⟨htZ, hcZ⟩ := HGS.out.text H4T.out H4C.out
        have hB := psBase HG.out
        have how := HG.out.ho.lt
        have hobfb : wz.heap.size ≠ ob := fun e => by have h1 := HG.out.co; have h2 := (HGS.out.tree 8 _ (.inr rfl) H48.out H4F.out.lt).1; rw [e] at h2; omega
        have htv8 : tv2.ownBlock ≠ some wz.heap.size := fun e => by have h1 := hfr2.ctx _ e; have h2 := (HGS.out.tree 8 _ (.inr rfl) H48.out H4F.out.lt).1; omega
        have z1 := hFZ.cell 1
        have htx2 : wr.ownsRow B tB 1 tv2 (addsTo g f.sign f.row.sp f.row.sp.length).tx.length ((addsTo g f.sign f.row.sp f.row.sp.length).tx.map byteV) := hfr2.tx
        have hA2 := (HAB.out f.row.sp.length).2
        obtain ⟨A2, c2', rfl, hle2⟩ := own_slice htx2
        have HFR2 := Lib.hid hfr2
        have HA3 := Lib.hid a3
        generalize hn2 : (addsTo g f.sign f.row.sp f.row.sp.length).tx.length = n2 at *
        have HN2 := Lib.hid hn2
        clear hn2 hfr2 a3 hcZ
        go_wp2
        refine wp_region_held_drew (S := (fun w' => w'.cell? ⟨wz.heap.size, 1, none⟩ = some (.slice At f.row.tx.length ct))) (by kernel_rfl) ?_ (fun hHeld0 => ?_)
        · (try dsimp only)
          first | exact z1 | exact zz1 | exact cell_far hobfb.symm _ zz1
        refine wpAnyH_take (i := 0) (v := ?_) rfl (by kernel_rfl) (by kernel_rfl) (by kernel_rfl) (fun _ _ _ h => h) (Or.inl ⟨by kernel_rfl, ?_⟩) (by assumption) ?_
        rotate_left
        · (intro w hSw; (try dsimp only at hSw); go_simp; (first | done | with_reducible rfl))
        (try simp only [Act.put, List.setIfInBounds_toArray, List.set_cons_zero, List.set_cons_succ])
        refine wpAnyH_take (i := 1) (v := ?_) rfl (by kernel_rfl) (by kernel_rfl) (by kernel_rfl) (fun _ _ _ h => h) (Or.inl ⟨by kernel_rfl, ?_⟩) (by assumption) ?_
        rotate_left
        · (intro w hSw; (try dsimp only at hSw); go_simp; (first | done | with_reducible rfl))
        (try simp only [Act.put, List.setIfInBounds_toArray, List.set_cons_zero, List.set_cons_succ])
        refine wpAnyH_take (i := 2) (v := ?_) rfl (by kernel_rfl) (by kernel_rfl) (by kernel_rfl) (fun _ _ _ h => h) (Or.inl ⟨by kernel_rfl, ?_⟩) (by assumption) ?_
        rotate_left
        · (intro w hSw; (try dsimp only at hSw); go_simp; (first | done | with_reducible rfl))
        (try simp only [Act.put, List.setIfInBounds_toArray, List.set_cons_zero, List.set_cons_succ])
        refine wpAnyH_take (i := 3) (v := ?_) rfl (by kernel_rfl) (by kernel_rfl) (by kernel_rfl) (fun _ _ _ h => h) (Or.inl ⟨by kernel_rfl, ?_⟩) (by assumption) ?_
        rotate_left
        · (intro w hSw; (try dsimp only at hSw); go_simp; (first | done | with_reducible rfl))
        (try simp only [Act.put, List.setIfInBounds_toArray, List.set_cons_zero, List.set_cons_succ])
        refine wpAnyH_take (i := 4) (v := ?_) rfl (by kernel_rfl) (by kernel_rfl) (by kernel_rfl) (fun _ _ _ h => h) (Or.inl ⟨by kernel_rfl, ?_⟩) (by assumption) ?_
        rotate_left
        · (intro w hSw; (try dsimp only at hSw); go_simp; (first | done | with_reducible rfl))
        (try simp only [Act.put, List.setIfInBounds_toArray, List.set_cons_zero, List.set_cons_succ])
        refine wpAnyH_take (i := 6) (v := ?_) rfl (by kernel_rfl) (by kernel_rfl) (by kernel_rfl) (fun _ _ _ h => h) (Or.inl ⟨by kernel_rfl, ?_⟩) (by assumption) ?_
        rotate_left
        · (intro w hSw; (try dsimp only at hSw); go_simp; (first | done | with_reducible rfl))
        (try simp only [Act.put, List.setIfInBounds_toArray, List.set_cons_zero, List.set_cons_succ])
        refine wpAnyH_take (i := 7) (v := ?_) rfl (by kernel_rfl) (by kernel_rfl) (by kernel_rfl) (fun _ _ _ h => h) (Or.inl ⟨by kernel_rfl, ?_⟩) (by assumption) ?_
        rotate_left
        · (intro w hSw; (try dsimp only at hSw); go_simp; (first | done | with_reducible rfl))
        (try simp only [Act.put, List.setIfInBounds_toArray, List.set_cons_zero, List.set_cons_succ])
        refine wpAnyH_take (i := 8) (v := ?_) rfl (by kernel_rfl) (by kernel_rfl) (by kernel_rfl) (fun _ _ _ h => h) (Or.inl ⟨by kernel_rfl, ?_⟩) (by assumption) ?_
        rotate_left
        · (intro w hSw; (try dsimp only at hSw); go_simp; (first | done | with_reducible rfl))
        (try simp only [Act.put, List.setIfInBounds_toArray, List.set_cons_zero, List.set_cons_succ])
        refine wpAnyH_ready (rs := [5]) (by kernel_rfl) (by simp) ?_
        refine AllReadyH.cons rfl (fun K hK => ?_) AllReadyH.nil
        go_simp
        refine hK.out _ _ ?_ (fun hHeld1 => ?_)
        · (try dsimp only)
          first | exact z1 | exact zz1 | exact cell_far hobfb.symm _ zz1
        clear hK K hHeld0
        (try simp only [Act.put, List.setIfInBounds_toArray, List.set_cons_zero, List.set_cons_succ])
        refine wpAnyH_ready (rs := [9]) (by kernel_rfl) (by simp) ?_
        refine AllReadyH.cons rfl (fun K hK => ?_) AllReadyH.nil
        refine step_app_bytes (by rfl) _ _ _ (by rfl) B B 5 Tryz.underlying35 u8_info (.slice A2 n2 c2') (.slice At f.row.tx.length ct) n2 f.row.tx.length _ (f.row.tx.map byteV) (by rfl) (by rfl) htx2.drew htZ.drew (by simp [byteV, Value.oneCell']) (by omega) (by simp; omega) ?_
        intro v9 w9 ho9 hg9 hn9
        have hch9 := Chg.grown hg9
        have hh9 := hch9.holds (fun e => a2 e.symm) HG.out.ho.drew
        have hF9 := hch9.holds (fun e => htv8 e.symm) hFZ.drew
        have zz1 := hF9.cell 1
        have pp1 := (hh9.cell (r.length * 5 + 1)).trans HFR2.out.c1
        have pp2 := hh9.free (r.length * 5 + 1)
        obtain ⟨A9, c9, rfl, hle9⟩ := own_slice ho9
        have HN9 := Lib.hid hn9
        have HO9 := Lib.hid ho9
        clear hn9 ho9 hg9
        refine hK.out _ _ ?_ (fun hHeld2 => ?_)
        · (try dsimp only)
          first | exact z1 | exact zz1 | exact cell_far hobfb.symm _ zz1
        clear hK K hHeld1
        (try simp only [Act.put, List.setIfInBounds_toArray, List.set_cons_zero, List.set_cons_succ])
        refine wpAnyH_take (i := 10) (v := ?_) rfl (by kernel_rfl) (by kernel_rfl) (by kernel_rfl) (fun _ _ _ h => h) (Or.inl ⟨by kernel_rfl, ?_⟩) (by assumption) ?_
        rotate_left
        · (intro w hSw; (try dsimp only at hSw); go_simp; (first | done | with_reducible rfl))
        (try simp only [Act.put, List.setIfInBounds_toArray, List.set_cons_zero, List.set_cons_succ])
        refine wpAnyH_take (i := 11) (v := ?_) rfl (by kernel_rfl) (by kernel_rfl) (by kernel_rfl) (fun _ _ _ h => h) (Or.inl ⟨by kernel_rfl, ?_⟩) (by assumption) ?_
        rotate_left
        · (intro w hSw; (try dsimp only at hSw); go_simp; (first | done | with_reducible rfl))
        (try simp only [Act.put, List.setIfInBounds_toArray, List.set_cons_zero, List.set_cons_succ])
        refine wpAnyH_take (i := 12) (v := ?_) rfl (by kernel_rfl) (by kernel_rfl) (by kernel_rfl) (fun _ _ _ h => h) (Or.inl ⟨by kernel_rfl, ?_⟩) (by assumption) ?_
        rotate_left
        · (intro w hSw; (try dsimp only at hSw); go_simp; (first | done | with_reducible rfl))
        (try simp only [Act.put, List.setIfInBounds_toArray, List.set_cons_zero, List.set_cons_succ])
        refine wpAnyH_ready (rs := [13]) (by kernel_rfl) (by simp) ?_
        refine AllReadyH.cons rfl (fun K hK => ?_) AllReadyH.nil
        go_simp
        refine hK.out _ _ ?_ (fun hHeld3 => ?_)
        · (try dsimp only)
          first | exact z1 | exact zz1 | exact cell_far hobfb.symm _ zz1
        clear hK K hHeld2
        (try simp only [Act.put, List.setIfInBounds_toArray, List.set_cons_zero, List.set_cons_succ])
        refine wpAnyH_done (by kernel_rfl) ?_ _
        clear hHeld3
        go_wp2
        go_step3
        have hnr : ∀ k, (Value.slice A9 (n2 + f.row.tx.length) c9).ownBlock = some k → (Value.slice A2 n2 c2').ownBlock = some k ∨ wr.heap.size ≤ k := fun k hk => HN9.out.old k hk
        have hobn : (Value.slice A9 (n2 + f.row.tx.length) c9).ownBlock ≠ some ob := fun e => by
          rcases hnr _ e with h | h
          · exact a2 h
          · omega
        have hcz : Chg wr (w9.setCell ⟨ob, r.length * 5 + 1, none⟩ (.slice A9 (n2 + f.row.tx.length) c9)) (fun k => k = ob ∨ (Value.slice A2 n2 c2').ownBlock = some k) :=
          Chg.step (((Chg.refl wr _).drew).trans hch9 (fun k _ h => Or.inr h.symm)) (fun k _ e => Or.inl e)
        have hbyt : RowTo wr B (colG · = 4) ob (r.length * 5) csG tF sv2 (.slice A2 n2 c2') ((addsTo g f.sign f.row.sp f.row.sp.length).write f.row.tx) (w9.setCell ⟨ob, r.length * 5 + 1, none⟩ (.slice A9 (n2 + f.row.tx.length) c9)) := by
          refine ⟨sv2, .slice A9 (n2 + f.row.tx.length) c9, ?_, ?_, ?_, hcz.mono (fun k _ h => by rcases h with h | h; exact .inl h; exact .inr (.inr h)), fun k h => .inl h, hnr⟩
          · rw [set_same HFR2.out.c0]; exact hh9.set _ _
          · refine HFR2.out.sp.chg hcz (fun _ h => h) (fun b hb h => by have := HA3.out b hb; rcases h with h | h; exact this.2.1 h; exact this.2.2.2 h) (fun b hb h => ?_)
            rcases h with h | h
            · exact a1 (by rw [hb, h])
            · have := HFR2.out.csp b hb; have := HFR2.out.ctx b h; omega
          · have ho := ownsRow_setCell_other HO9.out (a := ⟨ob, r.length * 5 + 1, none⟩) hobn (.slice A9 (n2 + f.row.tx.length) c9)
            unfold TextRow
            have e : ((addsTo g f.sign f.row.sp f.row.sp.length).write f.row.tx).tx = (addsTo g f.sign f.row.sp f.row.sp.length).tx ++ f.row.tx := rfl
            rw [e, List.length_append, HN2.out, List.map_append]
            exact ho
        obtain ⟨colK, csK, hK, stK⟩ := psRowTo HG.out (f := { g with row := addsTo g f.sign f.row.sp f.row.sp.length }) (r := r) rfl HFR2.out hbyt
        refine ⟨rfl, ⟨m + 1, colK, fvE, csK, _, _, _, _, _, _, _, _, _, _, _, _, _, _, _, _, _, _, _, _, _, _, _, _, _, _, _, _, _, _, _, _, _, _, _, _, _, _, _, _, _, _, _, _, _, _, _, _, _, _, _, _, _, _, _, _, _, _, _, _, _, _, _, _, _, _, _, _, _, _, _, by have := HLL.out; omega, rfl, ?_, (HST4.out.trans HGS.out).trans stK⟩, ?_⟩
        · have e1 : len - (m + 1) = r.length + 1 := by have := HLL.out; have := HLR.out; omega
          have e2 : st.dropN (m + 1) = ⟨{ g with row := (addsTo g f.sign f.row.sp f.row.sp.length).write f.row.tx } :: r, (st.dropN m).faults ++ [(f.at', 7)]⟩ := by
            rw [dropN_next]
            unfold Pst.drop1
            rw [HFS.out]
            simp only [onTop, spill, addsTo, List.take_length]
          rw [e1, e2]
          exact hK
        · have d1 := hK.hp.cell 1
          have d1' : (w9.setCell ⟨ob, r.length * 5 + 1, none⟩ (.slice A9 (n2 + f.row.tx.length) c9)).cell? ⟨pb, 1, none⟩ = some (.slice (some ⟨ob, 0, none⟩) (r.length + 1) cap) := d1
          have d2 : wz.cell? ⟨pb, 1, none⟩ = some (.slice (some ⟨ob, 0, none⟩) (L + 1) cap) := c1
          unfold openLen
          rw [d1', d2]
          have := HLR.out
          simp only
          omega
end
end Go.Proofs.YtmdbhdhfdldegaaGreatDoor
namespace Go.Proofs.YtmdbhdhfdldegaaGreatDoor
open Go.RowKit Go.Bd
section
variable {w : World} {B : Nat} {col : Nat → Nat} {pb ob cap len : Nat} {s : ByteArray} {st : Pst} {i : Nat} {fv : Value} {gb : Nat} {cs : Array Value} {gn : List Bs}
theorem psAdopt (h : PSx Tryz.prog w B col pb ob cap len s st i fv gb cs gn) (d : Nat) (hd : d = 4 ∨ d = 8) (g : Option Nat) (hg : ∀ b, g = some b → (col b = 7 ∨ col b = 9) ∧ b < w.heap.size) :
    ∃ col' : Nat → Nat, PSx Tryz.prog w B col' pb ob cap len s st i fv gb cs gn ∧ Stay B w w col col' ∧ (∀ b, col b = 4 → col' b = 4) ∧ (∀ b, g = some b → col' b = d) ∧ ∀ b, g ≠ some b → col' b = col b := by
  obtain ⟨col', hc'⟩ : ∃ col' : Nat → Nat, col' = fun b => if g = some b then d else col b := ⟨_, rfl⟩
  have hold : ∀ {b d : Nat}, col b = d → d ≠ 7 → d ≠ 9 → col' b = d := fun {b d} h1 h2 h3 => by
    rw [hc']; simp only; rw [if_neg (fun e => by have := (hg b e).1; omega)]; exact h1
  have h4 : ∀ b, col b = 4 → col' b = 4 := fun b hb => hold hb (by omega) (by omega)
  refine ⟨col', ⟨h.hpB, h.hp, hold h.cp (by omega) (by omega), h.hoB, h.ho, hold h.co (by omega) (by omega), h.hcs, h.hcap, h.hlen, h.hmax, ?_, h.hf, ?_, h.hgB, h.hg, hold h.cg (by omega) (by omega), h.gone, h.gnl, ?_, fun b hb => hold (h.old b hb) (by omega) (by omega)⟩, ⟨Below.refl _ _, fun c b hc hb _ => ⟨hold hb (by omega) (by omega), rfl⟩⟩, h4, ?_, ?_⟩
  · intro k q hq
    obtain ⟨sw, tw, hq'⟩ := h.fr k q hq
    exact ⟨sw, tw, ⟨hq'.c0, hq'.c1, hq'.c2, hq'.c3, hq'.c4, hq'.sp.chg (Chg.refl w (fun _ => False)) h4 (fun _ _ h => h) (fun _ _ h => h), hq'.tx, fun b hb => hold (hq'.csp b hb) (by omega) (by omega), fun b hb => hold (hq'.ctx b hb) (by omega) (by omega)⟩⟩
  · exact fun b hb => hold (h.cf b hb) (by omega) (by omega)
  · intro b hb
    rw [hc']; simp only
    rw [if_neg (fun e => by have := (hg b e).2; omega)]
    exact h.new b hb
  · exact fun b hb => by rw [hc']; simp only; rw [if_pos hb]
  · exact fun b hb => by rw [hc']; simp only; rw [if_neg hb]
set_option maxRecDepth 100000 in
set_option maxHeartbeats 2000000 in
theorem end_any (h : PSx Tryz.prog w B col pb ob cap len s st i fv gb cs gn) (hl : len = st.fs.length) (n : Nat) (h0 : 0 < n) (hn : n < len) (i0 : Nat) (hI : Inv st i0) (hi0 : i0 ≤ 100000) :
    Calls Tryz.prog 58 #[.pointer (some ⟨pb, 0, none⟩), .int .i64 (n : Int)] w fun e w' => e = .returned (.tuple #[]) ∧
      ∃ col' fv' cs', PSx Tryz.prog w' B col' pb ob cap n s (st.fin n) i fv' gb cs' gn ∧ Stay B w w' col col' := by
  have cd := drop_any h hl n hn i0 hI hi0
  obtain ⟨hI1, hlen1⟩ := hI.drop (n := n) (by omega)
  have HFN : Hid (st.fin n = (st.drop n).shut) := rfl
  clear h hl hI
  generalize st.drop n = sd at cd hI1 hlen1 HFN
  obtain ⟨f, g, r, hfs⟩ : ∃ f g r, sd.fs = f :: g :: r := by
    match hq : sd.fs, hlen1 with
    | f :: g :: r, _ => exact ⟨f, g, r, rfl⟩
    | [f], hq2 => simp at hq2; omega
    | [], hq2 => simp at hq2
  have hnr : n = r.length + 1 := by rw [hfs] at hlen1; simp at hlen1; omega
  have hnb : n ≤ 16 := by have := hI1.2.2.2; omega
  have hwt : wtF f + (wtF g + wtFs r) ≤ i0 := by
    have := hI1.1
    rw [hfs, wtFs_cons, wtFs_cons] at this
    exact this
  have hwf : wtL f.row.sp + f.row.tx.length + (wtL g.row.sp + g.row.tx.length) ≤ 100000 := by
    unfold wtF wtR at hwt
    omega
  have hwl := wtL_len f.row.sp
  have hwg := wtL_len g.row.sp
  have HFS := Lib.hid hfs
  have HNR := Lib.hid hnr
  clear hfs hwt hI1 hlen1 hnr
  go_enter Tryz.func58, Tryz.ntmps58
  go_wp2_with fail
  refine cd.mono ?_
  clear cd
  rintro e w1 ⟨rfl, col1, fv1, cs1, h, hst⟩
  have H := Lib.hid h
  have HST := Lib.hid hst
  have c1 := h.hp.cell 1
  have c2 := h.hp.free 1
  have hpw := h.hp.lt
  have hcapn := h.hcap
  obtain ⟨sv, tv, hfr⟩ := h.fr (g :: r).length f (by rw [HFS.out]; exact rev_last f (g :: r))
  obtain ⟨q0, q1, q2, q3, q4⟩ := frame_cells hfr h.ho
  rw [List.length_cons, ← HNR.out] at q0 q1 q2 q3 q4
  obtain ⟨colB, sv', tv', e0, e1, _, _, _, hB, stB, hspB, htxB, hcs, hct⟩ := h.pop HFS.out 7
  rw [hfr.c0] at e0
  cases e0
  rw [hfr.c1] at e1
  cases e1
  have hB2 := hB.keep (S := fun _ => False) ((Chg.refl w1 _).alloc (.cells #[sv, tv, .int .u8 (f.kind : Int), strV f.sign, .int .i64 (f.at' : Int)] 68)) (fun _ h => h.elim)
  have hFB := Holds.new w1 68 #[sv, tv, .int .u8 (f.kind : Int), strV f.sign, .int .i64 (f.at' : Int)]
  have hc1 := Chg.alloc (Chg.refl w1 (fun _ => False)) (.cells #[sv, tv, .int .u8 (f.kind : Int), strV f.sign, .int .i64 (f.at' : Int)] 68)
  have hsp2 := hspB.chg hc1 (fun _ h => h) (fun _ _ h => h) (fun _ _ h => h)
  have htx2 := htxB.chg hc1 (fun _ _ h => h)
  have h9 : colB w1.heap.size = 9 := hB.new _ (Nat.le_refl _)
  have cf := flush_any w1.heap.size 0 #[sv, tv, .int .u8 (f.kind : Int), strV f.sign, .int .i64 (f.at' : Int)] 68 sv tv f.row _ B (colB · = 4) hFB rfl rfl hsp2 htx2
    (fun e => by have := hcs _ e; omega) (fun e => by have := hct _ e; omega) (fun k hk => ⟨by have := hB.lt4 hk; simp; omega, fun e => by subst e; omega, fun e => by have := hcs _ e; omega, fun e => by have := hct _ e; omega⟩)
    (by have := psBase hB; simp; omega) (by omega) (by omega)
  have HB2 := Lib.hid hB2
  have HLS := Lib.hid hspB.lt
  have HLT := Lib.hid htxB.lt
  have HCS := Lib.hid hcs
  have HCT := Lib.hid hct
  have HSTB := Lib.hid (HST.out.trans stB)
  obtain ⟨An, cn, rfl, hcn⟩ := hspB.form
  obtain ⟨At, ct, rfl, hct2⟩ := own_slice htxB
  clear h hst hfr hB hB2 hFB hc1 hsp2 htx2 hspB htxB hcs hct stB HST
  unfold strV at q3 cf
  go_wp2_with fail
  refine cf.mono ?_
  clear cf
  rintro e w2 ⟨rfl, sv2, tv2, g1, g2, g3, g4, g5, g6⟩
  have hsz12 : w1.heap.size + 1 ≤ w2.heap.size := by simpa using g4.size
  have hP2 := HB2.out.keep g4 (fun b hb hl => by
    rcases hb with h | h | h
    · subst h; exact .inr h9
    · exact .inl (HCS.out b h)
    · exact .inl (HCT.out b h))
  obtain ⟨colC0, hP20, stC0, hC40, hC80, hCo⟩ := psAdopt hP2 8 (.inr rfl) (some w1.heap.size) (fun b hb => by cases hb; exact ⟨.inr h9, g1.lt⟩)
  have hsvf : sv2.ownBlock ≠ some w1.heap.size := fun e => by
    obtain ⟨kvs, _, ho, _⟩ := g2
    exact own_apart_holds ho g1 (by decide) e
  obtain ⟨colC, hP3, stC1, hC41, hCs, hCo2⟩ := psAdopt hP20 4 (.inl rfl) sv2.ownBlock (fun b hb => ⟨by
    rw [hCo b (fun e => hsvf (by rw [hb, ← e]))]
    rcases g5 b hb with h | h
    · exact .inl (HCS.out b h)
    · exact .inr (HB2.out.new b h), (g2.lt b hb).2⟩)
  have stC := stC0.trans stC1
  have hC4 : ∀ b, colB b = 4 → colC b = 4 := fun b hb => hC41 b (hC40 b hb)
  have h8C : colC w1.heap.size = 8 := by rw [hCo2 _ hsvf]; exact hC80 _ rfl
  obtain ⟨hP4, stD⟩ := hP3.cut (n := n) (by simp only [List.length_cons]; have := HNR.out; omega) (by omega)
  have hst2 : Stay B w1 w2 colB colB := ⟨g4.toBelow (by have := psBase HB2.out; simpa using this) (fun b hb => by
      rcases hb with h | h | h
      · subst h; have := HB2.out.hpB; omega
      · exact (HLS.out b h).1
      · exact (HLT.out b h).1) |> fun hb => ((Below.refl B w1).alloc (psBase H.out) _).trans hb, fun c b hc hb hl => ⟨hb, (g4.block b (by simp; omega) (fun h => by
      rcases h with h | h | h
      · subst h; omega
      · have := HCS.out b h; omega
      · have := HCT.out b h; omega)).trans (Below.heap_alloc w1 _ b hl)⟩⟩
  have HST2 := Lib.hid (((HSTB.out.trans hst2).trans stC).trans stD)
  have hSP := g2.forest (G := (colC · = 4)) hC4 hCs
  replace hSP := stD.forest hSP
  obtain ⟨A2, c2', rfl, hc2'⟩ := g2.form
  have d1 := hP2.hp.cell 1
  have d2 := hP2.hp.free 1
  have hfbpb : w1.heap.size ≠ pb := by omega
  have hF2 := g1.far (p := ⟨pb, 1, none⟩) hfbpb (.slice (some ⟨ob, 0, none⟩) n cap)
  have HF2 := Lib.hid hF2
  have H8C := Lib.hid h8C
  have HSP := Lib.hid hSP
  have hP5 : PSx Tryz.prog (w2.setCell ⟨pb, 1, none⟩ (.slice (some ⟨ob, 0, none⟩) n cap)) B colC pb ob cap (r.length + 1) s { sd with fs := g :: r } i fv1 gb cs1 gn := by
    rw [← HNR.out]; exact hP4
  have HPD := Lib.hid (fun k => PSx.drewN hP5 k)
  have HSD : Hid (∀ k, Forest ((w2.setCell ⟨pb, 1, none⟩ (.slice (some ⟨ob, 0, none⟩) n cap)).drewN k) (colC · = 4) (.slice A2 f.row.flush.sp.length c2') f.row.flush.sp) := fun k => hSP.keep (fun _ h => h) (fun _ _ _ h => h)
  have y0 := hF2.cell 0
  have y2 := hF2.cell 2
  clear g1 g2 g3 g4 g5 g6 hP2 hP3 hP4 hP5 stC stC0 stC1 stD hSP hst2 hF2 hC4 hC40 hC41 hC80 hCo hCo2 hsvf h8C hP20 hCs q0 q1 q2 q3 q4
  go_wp2
  refine wp_region_held_drew (S := (fun w' => w'.cell? ⟨w1.heap.size, 2, none⟩ = some (.int .u8 (f.kind : Int)) ∧ w'.cell? ⟨w1.heap.size, 0, none⟩ = some (.slice A2 f.row.flush.sp.length c2'))) (by kernel_rfl) ?_ (fun hHeld0 => ?_)
  · (try dsimp only)
    first | exact ⟨y2, y0⟩ | exact ⟨z2, z0⟩
  refine wpAnyH_take (i := 0) (v := ?_) rfl (by kernel_rfl) (by kernel_rfl) (by kernel_rfl) (fun _ _ _ h => h) (Or.inl ⟨by kernel_rfl, ?_⟩) (by assumption) ?_
  rotate_left
  · (intro w hSw; (try dsimp only at hSw); go_simp; (first | done | with_reducible rfl))
  (try simp only [Act.put, List.setIfInBounds_toArray, List.set_cons_zero, List.set_cons_succ])
  refine wpAnyH_take (i := 4) (v := ?_) rfl (by kernel_rfl) (by kernel_rfl) (by kernel_rfl) (fun _ _ _ h => h) (Or.inl ⟨by kernel_rfl, ?_⟩) (by assumption) ?_
  rotate_left
  · (intro w hSw; (try dsimp only at hSw); go_simp; (first | done | with_reducible rfl))
  (try simp only [Act.put, List.setIfInBounds_toArray, List.set_cons_zero, List.set_cons_succ])
  refine wpAnyH_take (i := 5) (v := ?_) rfl (by kernel_rfl) (by kernel_rfl) (by kernel_rfl) (fun _ _ _ h => h) (Or.inl ⟨by kernel_rfl, ?_⟩) (by assumption) ?_
  rotate_left
  · (intro w hSw; (try dsimp only at hSw); go_simp; (first | done | with_reducible rfl))
  (try simp only [Act.put, List.setIfInBounds_toArray, List.set_cons_zero, List.set_cons_succ])
  refine wpAnyH_take (i := 6) (v := ?_) rfl (by kernel_rfl) (by kernel_rfl) (by kernel_rfl) (fun _ _ _ h => h) (Or.inl ⟨by kernel_rfl, ?_⟩) (by assumption) ?_
  rotate_left
  · (intro w hSw; (try dsimp only at hSw); go_simp; (first | done | with_reducible rfl))
  (try simp only [Act.put, List.setIfInBounds_toArray, List.set_cons_zero, List.set_cons_succ])
  refine wpAnyH_take (i := 7) (v := ?_) rfl (by kernel_rfl) (by kernel_rfl) (by kernel_rfl) (fun _ _ _ h => h) (Or.inl ⟨by kernel_rfl, ?_⟩) (by assumption) ?_
  rotate_left
  · (intro w hSw; (try dsimp only at hSw); go_simp; (first | done | with_reducible rfl))
  (try simp only [Act.put, List.setIfInBounds_toArray, List.set_cons_zero, List.set_cons_succ])
  refine wpAnyH_take (i := 8) (v := ?_) rfl (by kernel_rfl) (by kernel_rfl) (by kernel_rfl) (fun _ _ _ h => h) (Or.inl ⟨by kernel_rfl, ?_⟩) (by assumption) ?_
  rotate_left
  · (intro w hSw; (try dsimp only at hSw); go_simp; (first | done | with_reducible rfl))
  (try simp only [Act.put, List.setIfInBounds_toArray, List.set_cons_zero, List.set_cons_succ])
  refine wpAnyH_take (i := 9) (v := ?_) rfl (by kernel_rfl) (by kernel_rfl) (by kernel_rfl) (fun _ _ _ h => h) (Or.inl ⟨by kernel_rfl, ?_⟩) (by assumption) ?_
  rotate_left
  · (intro w hSw; (try dsimp only at hSw); go_simp; (first | done | with_reducible rfl))
  (try simp only [Act.put, List.setIfInBounds_toArray, List.set_cons_zero, List.set_cons_succ])
  refine wpAnyH_ready (rs := [1]) (by kernel_rfl) (by simp) ?_
  refine AllReadyH.cons rfl (fun K hK => ?_) AllReadyH.nil
  go_simp
  refine (top_any (HPD.out _) (by have := HNR.out; omega)).mono ?_
  rintro e w3 ⟨rfl, kk, rfl⟩
  go_wp2_with fail
  refine hK.out _ _ ?_ (fun hHeld1 => ?_)
  · (try dsimp only)
    first | exact ⟨y2, y0⟩ | exact ⟨z2, z0⟩
  clear hK K hHeld0
  (try simp only [Act.put, List.setIfInBounds_toArray, List.set_cons_zero, List.set_cons_succ])
  refine wpAnyH_take (i := 2) (v := ?_) rfl (by kernel_rfl) (by kernel_rfl) (by kernel_rfl) (fun _ _ _ h => h) (Or.inl ⟨by kernel_rfl, ?_⟩) (by assumption) ?_
  rotate_left
  · (intro w hSw; (try dsimp only at hSw); go_simp; (first | done | with_reducible rfl))
  (try simp only [Act.put, List.setIfInBounds_toArray, List.set_cons_zero, List.set_cons_succ])
  refine wpAnyH_take (i := 3) (v := ?_) rfl (by kernel_rfl) (by kernel_rfl) (by kernel_rfl) (fun _ _ _ h => h) (Or.inl ⟨by kernel_rfl, ?_⟩) (by assumption) ?_
  rotate_left
  · (intro w hSw; (try dsimp only at hSw); go_simp; (first | done | with_reducible rfl))
  (try simp only [Act.put, List.setIfInBounds_toArray, List.set_cons_zero, List.set_cons_succ])
  refine wpAnyH_ready (rs := [10]) (by kernel_rfl) (by simp) ?_
  refine AllReadyH.cons rfl (fun K hK => ?_) AllReadyH.nil
  go_simp
  refine (addTop_any (HPD.out _) (f := g) (r := r) rfl ⟨f.kind, [], [], [], f.row.flush.sp⟩ (.slice A2 f.row.flush.sp.length c2') (HSD.out _) (fun _ => by simp) (by omega) (by omega)).mono ?_
  rintro e w4 ⟨rfl, colE, csE, hE, stE⟩
  have stE2 := stE.undrew
  have HE := Lib.hid hE
  have HSE := Lib.hid stE2
  obtain ⟨_, hF4⟩ := stE2.holds H8C.out HF2.out
  have z2 := hF4.cell 2
  have z0 := hF4.cell 0
  clear hE stE stE2
  go_wp2_with fail
  refine hK.out _ _ ?_ (fun hHeld2 => ?_)
  · (try dsimp only)
    first | exact ⟨y2, y0⟩ | exact ⟨z2, z0⟩
  clear hK K hHeld1
  (try simp only [Act.put, List.setIfInBounds_toArray, List.set_cons_zero, List.set_cons_succ])
  refine wpAnyH_done (by kernel_rfl) ?_ _
  go_wp2
  go_end0
  refine ⟨rfl, colE, fv1, csE, ?_, HST2.out.trans HSE.out⟩
  have e : st.fin n = ({ sd with fs := g :: r } : Pst).top (·.add ⟨f.kind, [], [], [], f.row.flush.sp⟩) := by
    rw [HFN.out]
    unfold Pst.shut Pst.top
    rw [HFS.out]
  rw [e, HNR.out]
  exact HE.out
end
end Go.Proofs.YtmdbhdhfdldegaaGreatDoor
namespace Go.Bd
theorem index_neg {s sub : Bs} (h : Lib.index s sub < 0) : ∀ j, j ≤ s.length → Lib.occAt s sub j = false := by
  intro j
  induction j using Nat.strongRecOn with
  | _ j ih =>
    intro hj
    cases hc : Lib.occAt s sub j with
    | false => rfl
    | true =>
      have := Lib.index_first hj hc (fun k hk => ih k hk (by omega))
      omega
theorem nextAt_none {s sub : Bs} {i j : Nat} (h : nextAt s i sub = none) (hij : i ≤ j) : nextAt s j sub = none := by
  have h0 : Lib.index (s.drop i) sub < 0 := by
    unfold nextAt at h
    split at h
    · assumption
    · cases h
  have h1 := index_neg h0
  have h2 : Lib.index (s.drop j) sub = -1 := by
    refine Lib.index_none fun k hk => ?_
    have e : (s.drop j).drop k = (s.drop i).drop (min (j - i + k) (s.drop i).length) := by
      by_cases hl : j - i + k ≤ (s.drop i).length
      · rw [Nat.min_eq_left hl, List.drop_drop, List.drop_drop]; congr 1; omega
      · simp at hl
        rw [Nat.min_eq_right (by simp; omega), List.drop_eq_nil_of_le (Nat.le_refl _), List.drop_drop, List.drop_eq_nil_of_le (by omega)]
    have := h1 (min (j - i + k) (s.drop i).length) (Nat.min_le_right _ _)
    unfold Lib.occAt at this ⊢
    rw [e]; exact this
  unfold nextAt
  rw [if_pos (by omega)]
theorem index_le2 (s sub : Bs) : Lib.index s sub ≤ s.length := by
  by_cases h : Lib.index s sub < 0
  · omega
  · by_cases h2 : ∃ j, j ≤ s.length ∧ Lib.occAt s sub j = true
    · obtain ⟨j, h3, h4⟩ := h2
      have : ∀ n, ∀ j, j ≤ n → j ≤ s.length → Lib.occAt s sub j = true → Lib.index s sub ≤ s.length := by
        intro n
        induction n with
        | zero =>
          intro j h0 h1 h2
          have := Lib.index_first h1 h2 (fun k hk => by omega)
          omega
        | succ n ih =>
          intro j h0 h1 h2
          by_cases hk : ∃ k, k < j ∧ Lib.occAt s sub k = true
          · obtain ⟨k, h5, h6⟩ := hk
            exact ih k (by omega) (by omega) h6
          · have := Lib.index_first h1 h2 (fun k h5 => by
              cases h6 : Lib.occAt s sub k with
              | false => rfl
              | true => exact absurd ⟨k, h5, h6⟩ hk)
            omega
      exact this j j (Nat.le_refl _) h3 h4
    · have := Lib.index_none (fun j hj => by
        cases h6 : Lib.occAt s sub j with
        | false => rfl
        | true => exact absurd ⟨j, hj, h6⟩ h2)
      omega
def nextV (o : Option Nat) : Value := .int .i64 (match o with | some n => (n : Int) | none => -1)
theorem nextAt_le {s sub : Bs} {i n : Nat} (h : nextAt s i sub = some n) : i ≤ n := by
  unfold nextAt at h
  split at h
  · cases h
  · injection h with h; omega
theorem chg_turned {w w' : World} {b : Nat} (h : w.mapTurned w' b) : Chg w w' (· = b) := by
  obtain ⟨es, c, es', c', _, rfl⟩ := h
  refine ⟨rfl, rfl, rfl, by simp [ChangeMaps.setBlock], fun k _ hk => ?_⟩
  unfold ChangeMaps.setBlock
  simp only
  rw [Array.getElem?_setIfInBounds_ne (fun e => hk e.symm)]
theorem any_gone (gn : List Bs) (sub : Bs) : (gn.map Lit.string).any (fun x => x.sameKey (.string sub)) = true ↔ sub ∈ gn := by
  simp [Lit.sameKey]
end Go.Bd
namespace Go.Proofs.YtmdbhdhfdldegaaGreatDoor
open Go.RowKit Go.Bd Go.Maps
theorem str_keyed : Keyed Tryz.prog 9 := string_keyed Tryz.underlying9
theorem zero_unit (w : World) : (zeroValue 141).run Tryz.prog w = .ok (.agg #[]) w := by kernel_rfl
theorem keyLits (gn : List Bs) : ∀ x ∈ gn.map Lit.string, WideAt.IsKeyLit x := by
  intro x hx
  simp at hx
  obtain ⟨a, _, rfl⟩ := hx
  first | exact ⟨_, rfl⟩ | trivial | simp [WideAt.IsKeyLit]
section
variable {w : World} {B : Nat} {col : Nat → Nat} {pb ob cap len : Nat} {s : ByteArray} {st : Pst} {i : Nat} {fv : Value} {gb : Nat} {cs : Array Value} {gn : List Bs}
set_option maxRecDepth 100000 in
theorem next_any {i0 : Nat} (h : PSx Tryz.prog w B col pb ob cap len s st i0 fv gb cs gn) (hi : i0 < i) (his : i ≤ s.size) (hs : s.size ≤ 100000) (sub : ByteArray) (hsub : sub.size ≤ 10) (m : Int) (hm : w.cell? ⟨0, 0, none⟩ = some (.int .i64 m)) :
    Calls Tryz.prog 75 #[.pointer (some ⟨pb, 0, none⟩), .int .i64 (i : Int), .string sub] w fun e w' => e = .returned (nextV (nextAt s.data.toList i sub.data.toList)) ∧
      ∃ gn', PSx Tryz.prog w' B col pb ob cap len s st i fv gb cs gn' ∧ Stay B w w' col col := by
  have H := Lib.hid h
  have hpw := h.hp.lt
  have hlt := World.ownsMap.lt h.hg
  have c3 := h.hp.cell 3
  have c0 := (h.hp.alloc (.cells #[] 141)).cell 0
  have d3 := (h.hp.alloc (.cells #[] 141)).cell 3
  have hm2 : (w.alloc (.cells #[] 141)).cell? ⟨0, 0, none⟩ = some (.int .i64 m) := (World.cell?_of_block (Below.heap_alloc w _ 0 (World.block_lt_of_cell? w _ hm))).trans hm
  have hg := h.hg
  have hg2 := h.hg.chg (Chg.alloc (Chg.refl w (fun _ => False)) (.cells #[] 141)) (fun h => h)
  have hkey : keyOf Tryz.prog 9 (.string sub) = some (.string sub.data.toList)  := WideMaps.keyOf_string_mk Tryz.underlying9 (by unfold maxLen; omega)
  have hgl := h.gnl
  have hhas := has_setOf (H := Unit) (.agg []) (.string sub.data.toList) _ (keyLits gn)
  have HG := Lib.hid (any_gone gn sub.data.toList)
  generalize (gn.map Lit.string).any (fun x => x.sameKey (.string sub.data.toList)) = bG at hhas HG
  have hsl : (s.extract i s.size).size < 4294967281 := by simp; omega
  have ci := Tryz.strings_Index (s.extract i s.size) sub m _ hsl hm2
  have hdl : (s.extract i s.size).data.toList = s.data.toList.drop i := by
    simp only [ByteArray.data_extract, Array.toList_extract, List.extract_eq_take_drop]
    exact List.take_of_length_le (by simp)
  rw [hdl] at ci
  have hlen : s.data.toList.length = s.size := by simp
  have hix := index_le2 (s.data.toList.drop i) sub.data.toList
  clear h
  go_enter Tryz.func75, Tryz.ntmps75
  go_wp2_with (first
    | (at_lookup; refine wpList_lookup_own_unit _ rfl _ _ 57 rfl 9 141 str_keyed Tryz.underlying57 (zero_unit _) gb _ _ rfl hg _ _ rfl hkey ?_)
    | fail)
  · go_ret
    have hin := HG.out.1 (by assumption)
    have hno := nextAt_none (H.out.gone _ hin i0 (Nat.le_refl _)) (Nat.le_of_lt hi)
    refine ⟨by rw [hno]; rfl, gn, (H.out.on (Nat.le_of_lt hi)).keep ((Chg.refl w (fun _ => False)).alloc _) (fun _ h => h.elim), ⟨(Below.refl _ _).alloc (by have := H.out.hpB; omega) _, fun c b _ hb hl => ⟨hb, Below.heap_alloc w _ b hl⟩⟩⟩
  · have hnin : sub.data.toList ∉ gn := fun hin => by
      have h1 := HG.out.2 hin
      have h2 : bG = false := by assumption
      rw [h1] at h2
      cases h2
    refine ci.mono ?_
    clear ci
    rintro e w' ⟨rfl, rfl⟩
    have HIX := Lib.hid hix
    have e2 : 0 ≤ Lib.index (s.data.toList.drop i) sub.data.toList → IntKind.i64.wrap ((i : Int) + Lib.index (s.data.toList.drop i) sub.data.toList) = (i : Int) + Lib.index (s.data.toList.drop i) sub.data.toList := fun h0 => IntWalk.i64_in _ (by
      rw [List.length_drop, hlen] at hix
      omega)
    have HNX : Hid (nextAt s.data.toList i sub.data.toList = if Lib.index (s.data.toList.drop i) sub.data.toList < 0 then none else some (i + (Lib.index (s.data.toList.drop i) sub.data.toList).toNat)) := rfl
    generalize Lib.index (s.data.toList.drop i) sub.data.toList = x at e2 HNX HIX
    clear hix hdl hlen
    go_wp2_with (first
      | (at_mapUpdate; refine wpList_mapUpdate_in _ rfl _ _ _ 57 rfl 9 141 str_keyed Tryz.underlying57 (unitElem (H := Unit)) gb _ _ rfl hg2 (by unfold maxLen; omega) _ _ _ rfl rfl hkey _ [] unitElem_mk ?_; intro w1 hown1 hturn1)
      | fail)
    · have hneg : x < 0 := by assumption
      have hno : nextAt s.data.toList i sub.data.toList = none := by rw [HNX.out, if_pos hneg]
      go_ret
      refine ⟨by rw [hno]; rfl, gn ++ [sub.data.toList], ?_⟩
      have hch : Chg w w1 (· = gb) := ((Chg.refl w _).alloc _).trans (chg_turned hturn1) (fun _ _ h => h)
      refine H.out.signs hch ?_ (fun g hg j hj => ?_) (by simp; omega)
      · unfold GoneAt
        rw [List.map_append, List.length_append]
        have hs := setOf_snoc (H := Unit) (.agg []) (gn.map Lit.string) (.string sub.data.toList)
        rw [show ([sub.data.toList].map Lit.string : List Lit) = [.string sub.data.toList] from rfl, hs]
        exact hown1
      · rcases List.mem_append.1 hg with h1 | h1
        · exact H.out.gone g h1 j (by omega)
        · obtain rfl := List.mem_singleton.1 h1
          exact nextAt_none hno hj
    · have hpos : 0 ≤ x := by assumption
      have hyes : nextAt s.data.toList i sub.data.toList = some (i + x.toNat) := by rw [HNX.out, if_neg (by omega)]
      go_ret
      refine ⟨by rw [hyes]; unfold nextV; simp only; rw [show ((i + x.toNat : Nat) : Int) = i + x by omega]; rfl, gn, (H.out.on (Nat.le_of_lt hi)).keep ((Chg.refl w (fun _ => False)).alloc _) (fun _ h => h.elim), ⟨(Below.refl _ _).alloc (by have := H.out.hpB; omega) _, fun c b _ hb hl => ⟨hb, Below.heap_alloc w _ b hl⟩⟩⟩
end
end Go.Proofs.YtmdbhdhfdldegaaGreatDoor
namespace Go.Proofs.YtmdbhdhfdldegaaGreatDoor
open Go.RowKit Go.Bd
theorem ret_bool {a b : Bool} (h : a = b) : Ending.returned (.bool a) = .returned (.bool b) := by rw [h]
theorem u8_eq (c d : UInt8) : (c == d) = decide (c.toNat = d.toNat) := by
  by_cases h : c = d
  · subst h; simp
  · rw [beq_eq_false_iff_ne.2 h, decide_eq_false]
    exact fun e => h (UInt8.toNat_inj.1 e)
set_option linter.unusedSimpArgs false
theorem letter_any (c : UInt8) (w : World) : Calls Tryz.prog 101 #[byteV c] w fun e w' => e = .returned (.bool (letterB c)) ∧ w = w' := by
  unfold byteV letterB
  simp only [UInt8.le_iff_toNat_le, show UInt8.toNat 65 = 65 from rfl, show UInt8.toNat 90 = 90 from rfl, show UInt8.toNat 97 = 97 from rfl, show UInt8.toNat 122 = 122 from rfl]
  generalize c.toNat = n
  go_enter Tryz.func101, Tryz.ntmps101
  go_wp2
  all_goals
    go_ret
    refine ⟨ret_bool ?_, rfl⟩
    rw [Bool.eq_iff_iff]
    simp only [Bool.or_eq_true, Bool.and_eq_true, beq_iff_eq, decide_eq_true_eq, reduceCtorEq, iff_true, true_iff, false_iff, Bool.false_eq_true]
    omega
def digB (c : UInt8) : Bool := decide (48 ≤ c) && decide (c ≤ 57)
theorem digit_any (c : UInt8) (w : World) : Calls Tryz.prog 102 #[byteV c] w fun e w' => e = .returned (.bool (digB c)) ∧ w = w' := by
  unfold byteV digB
  simp only [UInt8.le_iff_toNat_le, show UInt8.toNat 48 = 48 from rfl, show UInt8.toNat 57 = 57 from rfl]
  generalize c.toNat = n
  go_enter Tryz.func102, Tryz.ntmps102
  go_wp2
  all_goals
    go_ret
    refine ⟨ret_bool ?_, rfl⟩
    rw [Bool.eq_iff_iff]
    simp only [Bool.or_eq_true, Bool.and_eq_true, beq_iff_eq, decide_eq_true_eq, reduceCtorEq, iff_true, true_iff, false_iff, Bool.false_eq_true]
    omega
theorem blank_any (c : UInt8) (w : World) : Calls Tryz.prog 79 #[byteV c] w fun e w' => e = .returned (.bool (Bd.blank c)) ∧ w = w' := by
  unfold byteV Bd.blank
  generalize c.toNat = n
  go_enter Tryz.func79, Tryz.ntmps79
  go_wp2
  all_goals
    go_ret
    refine ⟨ret_bool ?_, rfl⟩
    rw [Bool.eq_iff_iff]
    simp only [Bool.or_eq_true, Bool.and_eq_true, beq_iff_eq, decide_eq_true_eq, reduceCtorEq, iff_true, true_iff, false_iff, Bool.false_eq_true]
    omega
theorem solid_any (c : UInt8) (w : World) : Calls Tryz.prog 80 #[byteV c] w fun e w' => e = .returned (.bool (solid c)) ∧ w = w' := by
  unfold byteV solid
  simp only [UInt8.le_iff_toNat_le, show UInt8.toNat 65 = 65 from rfl, show UInt8.toNat 90 = 90 from rfl, show UInt8.toNat 97 = 97 from rfl, show UInt8.toNat 122 = 122 from rfl, show UInt8.toNat 48 = 48 from rfl, show UInt8.toNat 57 = 57 from rfl]
  generalize c.toNat = n
  go_enter Tryz.func80, Tryz.ntmps80
  go_wp2
  all_goals
    go_ret
    refine ⟨ret_bool ?_, rfl⟩
    rw [Bool.eq_iff_iff]
    simp only [Bool.or_eq_true, Bool.and_eq_true, beq_iff_eq, decide_eq_true_eq, reduceCtorEq, iff_true, true_iff, false_iff, Bool.false_eq_true]
    omega
theorem escaped_any (c : UInt8) (w : World) : Calls Tryz.prog 23 #[byteV c] w fun e w' => e = .returned (.bool (escB c)) ∧ w = w' := by
  unfold byteV escB
  simp only [u8_eq, show UInt8.toNat 42 = 42 from rfl, show UInt8.toNat 95 = 95 from rfl, show UInt8.toNat 60 = 60 from rfl, show UInt8.toNat 40 = 40 from rfl, show UInt8.toNat 94 = 94 from rfl, show UInt8.toNat 93 = 93 from rfl, show UInt8.toNat 92 = 92 from rfl, show UInt8.toNat 96 = 96 from rfl]
  generalize c.toNat = n
  go_enter Tryz.func23, Tryz.ntmps23
  go_wp2
  all_goals
    go_ret
    refine ⟨ret_bool ?_, rfl⟩
    rw [Bool.eq_iff_iff]
    simp only [Bool.or_eq_true, Bool.and_eq_true, beq_iff_eq, decide_eq_true_eq, reduceCtorEq, iff_true, true_iff, false_iff, Bool.false_eq_true]
    simp only [beq_iff_eq, beq_eq_false_iff_ne] at *
    omega
theorem headD_list (l : Bs) (h : 0 < l.length) : l.headD 0 = l[0] := by
  cases l with
  | nil => simp at h
  | cons a l => simp
theorem headD_get (s : ByteArray) (h : 0 < s.size) : s.data.toList.headD 0 = s[0] :=
  (headD_list s.data.toList (by simpa using h)).trans (by first | rfl | simp [ByteArray.getElem_eq_getElem_data])
def okB (c : UInt8) : Bool := solid c || c == 45
theorem okB_def (c : UInt8) : okB c = (letterB c || digB c || decide (c.toNat = 45)) := by
  rw [← show UInt8.toNat 45 = 45 from rfl, ← u8_eq]; rfl
theorem all_take_succ (s : ByteArray) (k : Nat) (h : k < s.size) : (s.data.toList.take (k + 1)).all okB = ((s.data.toList.take k).all okB && okB s[k]) := by
  have e : s[k] = s.data.toList[k]'(by simpa using h) := by
    first | rfl | simp [ByteArray.getElem_eq_getElem_data]
  rw [e, List.take_succ_eq_append_getElem (by simpa using h), List.all_append]
  simp
set_option maxRecDepth 100000 in
set_option maxHeartbeats 400000 in
theorem name_any (s : ByteArray) (w : World) (hs : s.size ≤ 100000) : Calls Tryz.prog 77 #[.string s] w fun e w' => e = .returned (.bool (nameB s.data.toList)) ∧ w = w' := by
  have cl := fun c w => letter_any c w
  have cd := fun c w => digit_any c w
  unfold byteV at cl cd
  have hlen : s.data.toList.length = s.size := by simp
  have HB : Hid (nameB s.data.toList = (decide (1 ≤ s.size) && decide (s.size ≤ 60) && letterB (s.data.toList.headD 0) && s.data.toList.all okB)) := by
    show nameB s.data.toList = _
    unfold nameB
    rw [hlen]; rfl
  clear hlen
  go_enter Tryz.func77, Tryz.ntmps77
  go_wp2_with (first
    | (go_at_call 101; refine (cl _ _).mono ?_; rintro e w' ⟨rfl, rfl⟩)
    | fail)
  · go_ret
    refine ⟨ret_bool ?_, rfl⟩
    rename_i h1 h2 h3 h4
    rw [HB.out, headD_get s h3]
    rcases h4 with h4 | h4
    · omega
    · have h5 : letterB s[0] = false := by simpa using h4
      simp [h5]
  · have h3 : 0 < s.size := ‹0 < s.size›
    rename _ ∧ (!letterB s[0]) = false => h4
    have hl0 : letterB (s.data.toList.headD 0) = true := by rw [headD_get s h3]; simpa using h4.2
    have HL := Lib.hid hl0
    have HR := Lib.hid h4.1
    clear h4 hl0
    go_loopg [21] s.size (fun gk i wr => wr = w ∧ ∃ k : Nat, k + gk = s.size ∧ i = .int .i64 k ∧ (s.data.toList.take k).all okB = true)
    case atStart => exact ⟨rfl, 0, by omega, rfl, rfl⟩
    case round =>
      obtain ⟨rfl, k, hk, rfl, hall⟩ := hrel
      have HA := Lib.hid hall
      clear hall
      go_wp2_with (first
        | (go_at_call 101; refine (cl _ _).mono ?_; rintro e w' ⟨rfl, rfl⟩)
        | (go_at_call 102; refine (cd _ _).mono ?_; rintro e w' ⟨rfl, rfl⟩)
        | fail)
      · go_roundg (gk - 1)
        case measure => omega
        case rel => exact ⟨rfl, k + 1, by omega, by go_num, by rw [all_take_succ s k ‹_›, HA.out, okB_def, ‹letterB s[k] = true›]; rfl⟩
      · go_roundg (gk - 1)
        case measure => omega
        case rel => exact ⟨rfl, k + 1, by omega, by go_num, by rw [all_take_succ s k ‹_›, HA.out, okB_def, ‹digB s[k] = true›, Bool.or_true]; rfl⟩
      · go_ret
        refine ⟨ret_bool ?_, rfl⟩
        have hk2 : k < s.size := by assumption
        have h5 : ¬ s[k].toNat = 45 := fun e => by
          have h6 : ((s[k].toNat : Int) != 45) = true := by assumption
          rw [e] at h6
          simp at h6
        have h7 : okB s[k] = false := by
          rw [okB_def, Bool.eq_false_iff.2 ‹¬ letterB s[k] = true›, Bool.eq_false_iff.2 ‹¬ digB s[k] = true›, decide_eq_false h5]
          rfl
        have h8 : s.data.toList.all okB = false := by
          rw [Bool.eq_false_iff]
          intro h
          have h9 := all_take_succ s k hk2
          rw [h7, Bool.and_false] at h9
          rw [Bool.eq_false_iff] at h9
          refine h9 (List.all_eq_true.2 fun x hx => List.all_eq_true.1 h x (List.mem_of_mem_take hx))
        rw [HB.out, h8, Bool.and_false]
      · go_roundg (gk - 1)
        case measure => omega
        case rel =>
          have h5 : s[k].toNat = 45 := by
            have h6 : ((s[k].toNat : Int) != 45) = false := by assumption
            simp at h6
            omega
          exact ⟨rfl, k + 1, by omega, by go_num, by rw [all_take_succ s k ‹_›, HA.out, okB_def, decide_eq_true h5, Bool.or_true]; rfl⟩
      · go_ret
        refine ⟨ret_bool ?_, rfl⟩
        have hk2 : k = s.size := by omega
        have h8 := HA.out
        rw [List.take_of_length_le (by simp; omega)] at h8
        rw [HB.out, h8, HL.out, decide_eq_true (by omega), decide_eq_true (by omega)]
        rfl
  · go_ret
    refine ⟨ret_bool ?_, rfl⟩
    rw [HB.out, decide_eq_false (by omega : ¬ s.size ≤ 60)]
    simp
  · go_ret
    refine ⟨ret_bool ?_, rfl⟩
    rw [HB.out, decide_eq_false (by omega : ¬ 1 ≤ s.size)]
    simp
end Go.Proofs.YtmdbhdhfdldegaaGreatDoor
namespace Go.Proofs.YtmdbhdhfdldegaaGreatDoor
open Go.RowKit Go.Bd
set_option linter.unusedSimpArgs false
theorem rblank_any (c : UInt8) (w : World) : Calls Tryz.prog 70 #[byteV c] w fun e w' => e = .returned (.bool (Bd.blank c)) ∧ w = w' := by
  unfold byteV Bd.blank
  generalize c.toNat = n
  go_enter Tryz.func70, Tryz.ntmps70
  go_wp2
  all_goals
    go_ret
    refine ⟨ret_bool ?_, rfl⟩
    rw [Bool.eq_iff_iff]
    simp only [Bool.or_eq_true, Bool.and_eq_true, beq_iff_eq, decide_eq_true_eq, reduceCtorEq, iff_true, true_iff, false_iff, Bool.false_eq_true]
    omega
theorem rletter_any (c : UInt8) (w : World) : Calls Tryz.prog 69 #[byteV c] w fun e w' => e = .returned (.bool (solid c)) ∧ w = w' := by
  unfold byteV solid
  simp only [UInt8.le_iff_toNat_le, show UInt8.toNat 65 = 65 from rfl, show UInt8.toNat 90 = 90 from rfl, show UInt8.toNat 97 = 97 from rfl, show UInt8.toNat 122 = 122 from rfl, show UInt8.toNat 48 = 48 from rfl, show UInt8.toNat 57 = 57 from rfl]
  generalize c.toNat = n
  go_enter Tryz.func69, Tryz.ntmps69
  go_wp2
  all_goals
    go_ret
    refine ⟨ret_bool ?_, rfl⟩
    rw [Bool.eq_iff_iff]
    simp only [Bool.or_eq_true, Bool.and_eq_true, beq_iff_eq, decide_eq_true_eq, reduceCtorEq, iff_true, true_iff, false_iff, Bool.false_eq_true]
    omega
theorem solid_letter (c : UInt8) (h : solid c = true) : letterB c = decide (57 < c.toNat) := by
  unfold solid at h
  unfold letterB
  simp only [UInt8.le_iff_toNat_le, show UInt8.toNat 65 = 65 from rfl, show UInt8.toNat 90 = 90 from rfl, show UInt8.toNat 97 = 97 from rfl, show UInt8.toNat 122 = 122 from rfl, show UInt8.toNat 48 = 48 from rfl, show UInt8.toNat 57 = 57 from rfl] at *
  rw [Bool.eq_iff_iff]
  simp only [Bool.or_eq_true, Bool.and_eq_true, decide_eq_true_eq] at *
  omega
theorem letter_solid {c : UInt8} (h : letterB c = true) : solid c = true := by
  unfold letterB at h
  unfold solid
  simp only [Bool.or_eq_true] at *
  exact .inl h
set_option maxRecDepth 100000 in
set_option maxHeartbeats 400000 in
theorem rname08_any (s : ByteArray) (w : World) (hs : s.size ≤ 100000) : Calls Tryz.prog 68 #[.string s] w fun e w' => e = .returned (.bool (nameB s.data.toList)) ∧ w = w' := by
  have cl := fun c w => rletter_any c w
  unfold byteV at cl
  have hlen : s.data.toList.length = s.size := by simp
  have HB : Hid (nameB s.data.toList = (decide (1 ≤ s.size) && decide (s.size ≤ 60) && letterB (s.data.toList.headD 0) && s.data.toList.all okB)) := by
    show nameB s.data.toList = _
    unfold nameB
    rw [hlen]; rfl
  clear hlen
  go_enter Tryz.func68, Tryz.ntmps68
  go_wp2_with (first
    | (go_at_call 69; refine (cl _ _).mono ?_; rintro e w' ⟨rfl, rfl⟩)
    | fail)
  · go_ret
    refine ⟨ret_bool ?_, rfl⟩
    rename_i h1 h2 h3 h4 h5
    rw [HB.out, headD_get s h3, solid_letter _ h4, decide_eq_false (show ¬ 57 < (s[0]'h3).toNat by omega)]
    simp
  · have h3 : 0 < s.size := ‹0 < s.size›
    have h4 : solid (s[0]'h3) = true := by assumption
    have h5 : (1 ≤ (s.size : Int) ∧ (s.size : Int) ≤ 60) ∧ 57 < ((s[0]'h3).toNat : Int) := by assumption
    have hl0 : letterB (s.data.toList.headD 0) = true := by rw [headD_get s h3, solid_letter _ h4]; exact decide_eq_true (show 57 < (s[0]'h3).toNat by omega)
    have HL := Lib.hid hl0
    have HR := Lib.hid h5.1
    clear h4 h5 hl0
    go_loopg [3] s.size (fun gk i wr => wr = w ∧ ∃ k : Nat, k + gk = s.size ∧ i = .int .i64 k ∧ (s.data.toList.take k).all okB = true)
    case atStart => exact ⟨rfl, 0, by omega, rfl, rfl⟩
    case round =>
      obtain ⟨rfl, k, hk, rfl, hall⟩ := hrel
      have HA := Lib.hid hall
      clear hall
      go_wp2_with (first
        | (go_at_call 69; refine (cl _ _).mono ?_; rintro e w' ⟨rfl, rfl⟩)
        | fail)
      · go_roundg (gk - 1)
        case measure => omega
        case rel => exact ⟨rfl, k + 1, by omega, by go_num, by rw [all_take_succ s k ‹_›, HA.out]; unfold okB; rw [‹solid s[k] = true›]; rfl⟩
      · go_ret
        refine ⟨ret_bool ?_, rfl⟩
        have hk2 : k < s.size := by assumption
        have h5 : ¬ s[k].toNat = 45 := fun e => by
          have h6 : ((s[k].toNat : Int) != 45) = true := by assumption
          rw [e] at h6
          simp at h6
        have h7 : okB s[k] = false := by
          unfold okB
          rw [Bool.eq_false_iff.2 ‹¬ solid s[k] = true›, u8_eq, show UInt8.toNat 45 = 45 from rfl, decide_eq_false h5]
          rfl
        have h8 : s.data.toList.all okB = false := by
          rw [Bool.eq_false_iff]
          intro h
          have h9 := all_take_succ s k hk2
          rw [h7, Bool.and_false] at h9
          rw [Bool.eq_false_iff] at h9
          refine h9 (List.all_eq_true.2 fun x hx => List.all_eq_true.1 h x (List.mem_of_mem_take hx))
        rw [HB.out, h8, Bool.and_false]
      · go_roundg (gk - 1)
        case measure => omega
        case rel =>
          have h5 : s[k].toNat = 45 := by
            have h6 : ((s[k].toNat : Int) != 45) = false := by assumption
            simp at h6
            omega
          exact ⟨rfl, k + 1, by omega, by go_num, by rw [all_take_succ s k ‹_›, HA.out]; unfold okB; rw [u8_eq, show UInt8.toNat 45 = 45 from rfl, decide_eq_true h5, Bool.or_true]; rfl⟩
      · go_ret
        refine ⟨ret_bool ?_, rfl⟩
        have hk2 : k = s.size := by omega
        have h8 := HA.out
        have h9 := HR.out
        rw [List.take_of_length_le (by simp; omega)] at h8
        rw [HB.out, h8, HL.out, decide_eq_true (show 1 ≤ s.size by omega), decide_eq_true (show s.size ≤ 60 by omega)]
        rfl
  · go_ret
    refine ⟨ret_bool ?_, rfl⟩
    rename_i h1 h2 h3 h4
    have h5 : letterB s[0] = false := by
      cases h6 : letterB s[0] with
      | false => rfl
      | true => exact absurd (letter_solid h6) h4
    rw [HB.out, headD_get s h3, h5]
    simp
  · go_ret
    refine ⟨ret_bool ?_, rfl⟩
    rw [HB.out, decide_eq_false (by omega : ¬ s.size ≤ 60)]
    simp
  · go_ret
    refine ⟨ret_bool ?_, rfl⟩
    rw [HB.out, decide_eq_false (by omega : ¬ 1 ≤ s.size)]
    simp
theorem any_take_succ (s : ByteArray) (c : UInt8) (k : Nat) (h : k < s.size) : (s.data.toList.take (k + 1)).any (· == c) = ((s.data.toList.take k).any (· == c) || s[k] == c) := by
  have e : s[k] = s.data.toList[k]'(by simpa using h) := by
    first | rfl | simp [ByteArray.getElem_eq_getElem_data]
  rw [e, List.take_succ_eq_append_getElem (by simpa using h), List.any_append]
  simp
set_option maxRecDepth 100000 in
theorem ramong0 (s : ByteArray) (c : UInt8) (hs : s.size ≤ 1000) (w : World) : Calls Tryz.prog 35 #[.string s, byteV c] w fun e w' => e = .returned (.bool (s.data.toList.any (· == c))) ∧ w = w' := by
  unfold byteV
  go_enter Tryz.func35, Tryz.ntmps35
  go_wp2
  go_loopg [5] s.size (fun gk i wr => wr = w ∧ ∃ k : Nat, k + gk = s.size ∧ i = .int .i64 k ∧ Hid ((s.data.toList.take k).any (· == c) = false))
  case atStart => exact ⟨rfl, 0, by omega, rfl, rfl⟩
  case round =>
    obtain ⟨rfl, k, hk, rfl, HA⟩ := hrel
    go_wp2
    · go_ret
      refine ⟨ret_bool ?_, rfl⟩
      have hk2 : k < s.size := by assumption
      have h6 : ((s[k].toNat : Int) == (c.toNat : Int)) = true := by assumption
      have h7 : (s[k] == c) = true := by
        rw [u8_eq]
        simp at h6
        exact decide_eq_true (by omega)
      have h9 := any_take_succ s c k hk2
      rw [h7, Bool.or_true] at h9
      symm
      obtain ⟨y, hy, hyc⟩ := List.any_eq_true.1 h9
      exact List.any_eq_true.2 ⟨y, List.mem_of_mem_take hy, hyc⟩
    · have hk2 : k < s.size := by assumption
      have h6 : ((s[k].toNat : Int) == (c.toNat : Int)) = false := by assumption
      have h7 : (s[k] == c) = false := by
        rw [u8_eq]
        simp at h6
        exact decide_eq_false (by omega)
      have h9 := any_take_succ s c k hk2
      rw [h7, Bool.or_false, HA.out] at h9
      have H9 := Lib.hid h9
      clear h9 h7
      go_roundg (gk - 1)
      case measure => omega
      case rel => exact ⟨rfl, k + 1, by omega, by go_num, H9⟩
    · go_ret
      refine ⟨ret_bool ?_, rfl⟩
      have hk2 : k = s.size := by omega
      have h8 := HA.out
      rw [List.take_of_length_le (by simp; omega)] at h8
      rw [h8]
theorem ramong_any (c : UInt8) (w : World) : Calls Tryz.prog 35 #[.string ⟨#[42, 95, 60, 40, 94, 93, 92, 96]⟩, byteV c] w fun e w' => e = .returned (.bool (escB c)) ∧ w = w' := by
  have h := ramong0 ⟨#[42, 95, 60, 40, 94, 93, 92, 96]⟩ c (by decide) w
  have e : (⟨#[42, 95, 60, 40, 94, 93, 92, 96]⟩ : ByteArray).data.toList.any (· == c) = escB c := by
    unfold escB
    simp only [List.any_cons, List.any_nil, Bool.or_false]
    simp only [u8_eq]
    rw [Bool.eq_iff_iff]
    simp only [Bool.or_eq_true, decide_eq_true_eq]
    omega
  rw [e] at h
  exact h
def begB (s : Bs) (i : Nat) (x : Bs) : Bool := x.isPrefixOf (s.drop i)
theorem begB_cut (s x : ByteArray) (i : Nat) : ((s.extract i (i + x.size)).toList == x.toList) = begB s.data.toList i x.data.toList := by
  have e : (s.extract i (i + x.size)).data.toList = (s.data.toList.drop i).take x.size := by
    simp only [ByteArray.data_extract, Array.toList_extract, List.extract_eq_take_drop]
    congr 1; omega
  have el : x.data.toList.length = x.size := by simp
  rw [ByteArray.toList_eq, ByteArray.toList_eq, e]
  unfold begB
  rw [Bool.eq_iff_iff, beq_iff_eq, List.isPrefixOf_iff_prefix, List.prefix_iff_eq_take, el]
  exact eq_comm
theorem begB_long {s x : Bs} {i : Nat} (h : s.length < i + x.length) (hx : 0 < x.length) : begB s i x = false := by
  unfold begB
  rw [Bool.eq_false_iff]
  intro e
  have := (List.isPrefixOf_iff_prefix.1 e).length_le
  rw [List.length_drop] at this
  omega
set_option maxRecDepth 100000 in
theorem rbegins_any (s x : ByteArray) (i : Nat) (hi : i ≤ s.size) (hs : s.size ≤ 100000) (hx : x.size ≤ 100) (hx0 : 0 < x.size) (w : World) : Calls Tryz.prog 39 #[.string s, .int .i64 (i : Int), .string x] w fun e w' => e = .returned (.bool (begB s.data.toList i x.data.toList)) ∧ w = w' := by
  by_cases hl : i + x.size ≤ s.size
  · go_enter Tryz.func39, Tryz.ntmps39
    go_wp2
    go_ret
    exact ⟨ret_bool (begB_cut s x i), rfl⟩
  · have hb := begB_long (s := s.data.toList) (x := x.data.toList) (i := i) (by simp; omega) (by simp; omega)
    rw [hb]
    go_enter Tryz.func39, Tryz.ntmps39
    go_wp2
    go_ret
    exact ⟨rfl, rfl⟩
theorem next_some {s x : Bs} {i k : Nat} (hk : i ≤ k) (hb : begB s k x = true) (hm : ∀ j, i ≤ j → j < k → begB s j x = false) (hx : 0 < x.length) : nextAt s i x = some k := by
  have ho : ∀ j, Lib.occAt (s.drop i) x j = begB s (i + j) x := fun j => by
    unfold Lib.occAt begB
    rw [List.drop_drop]
  have hkl : k ≤ s.length := by
    by_cases h : k ≤ s.length
    · exact h
    · rw [begB_long (by omega) hx] at hb; cases hb
  have h1 := Lib.index_first (s := s.drop i) (sub := x) (i := k - i) (by rw [List.length_drop]; omega) (by rw [ho, show i + (k - i) = k by omega]; exact hb) (fun j hj => by rw [ho]; exact hm _ (by omega) (by omega))
  unfold nextAt
  rw [h1, if_neg (by omega)]
  congr 1
  omega
theorem next_none {s x : Bs} {i : Nat} (hm : ∀ j, i ≤ j → begB s j x = false) : nextAt s i x = none := by
  have h1 := Lib.index_none (s := s.drop i) (sub := x) (fun j _ => by
    have h2 := hm (i + j) (by omega)
    unfold begB at h2
    unfold Lib.occAt
    rw [List.drop_drop]; exact h2)
  unfold nextAt
  rw [h1]
  rfl
def findV (s : Bs) (i : Nat) (x : Bs) : Int := match nextAt s i x with
  | some k => (k : Int)
  | none => -1
theorem findV_some {s x : Bs} {i k : Nat} (h : nextAt s i x = some k) : findV s i x = (k : Int) := by unfold findV; rw [h]
theorem findV_none {s x : Bs} {i : Nat} (h : nextAt s i x = none) : findV s i x = -1 := by unfold findV; rw [h]
set_option maxRecDepth 100000 in
theorem rfind_any (s x : ByteArray) (i : Nat) (hi : i ≤ s.size) (hs : s.size ≤ 100000) (hx : x.size ≤ 100) (hx0 : 0 < x.size) (w : World) : Calls Tryz.prog 66 #[.string s, .int .i64 (i : Int), .string x] w fun e w' => e = .returned (.int .i64 (findV s.data.toList i x.data.toList)) ∧ w = w' := by
  go_enter Tryz.func66, Tryz.ntmps66
  go_wp2
  go_loopg [7] (s.size + 1 - i) (fun gk vi wr => wr = w ∧ ∃ k : Nat, i ≤ k ∧ k + gk = s.size + 1 ∧ vi = .int .i64 k ∧ Hid (∀ j, i ≤ j → j < k → begB s.data.toList j x.data.toList = false))
  case atStart => exact ⟨rfl, i, Nat.le_refl _, by omega, rfl, fun j h1 h2 => by omega⟩
  case round =>
    obtain ⟨rfl, k, hk1, hk, rfl, HA⟩ := hrel
    by_cases hl : k + x.size ≤ s.size
    · have hc := begB_cut s x k
      cases hb : begB s.data.toList k x.data.toList with
      | true =>
        rw [hb] at hc
        have hn := next_some hk1 hb HA.out (by simp; omega)
        have HN := Lib.hid (findV_some hn)
        clear hn hb HA
        go_wp2
        go_ret
        rw [HN.out]
        exact ⟨rfl, rfl⟩
      | false =>
        rw [hb] at hc
        have HA2 : Hid (∀ j, i ≤ j → j < k + 1 → begB s.data.toList j x.data.toList = false) := fun j h1 h2 => by
          by_cases hj : j < k
          · exact HA.out j h1 hj
          · obtain rfl : j = k := by omega
            exact hb
        clear hb HA
        go_wp2
        go_roundg (gk - 1)
        case measure => omega
        case rel => exact ⟨rfl, k + 1, by omega, by omega, by go_num, HA2⟩
    · have hn : nextAt s.data.toList i x.data.toList = none := next_none fun j h1 => by
        by_cases hj : j < k
        · exact HA.out j h1 hj
        · exact begB_long (by simp; omega) (by simp; omega)
      have HN := Lib.hid (findV_none hn)
      clear hn HA
      go_wp2
      go_ret
      rw [HN.out]
      exact ⟨rfl, rfl⟩
end Go.Proofs.YtmdbhdhfdldegaaGreatDoor
