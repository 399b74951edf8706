/-
  What the chapter's laws share, part 6: plain facts, memory, and walks of functions. Its conditions: those that each theorem names.
-/
import Derived.Laws.EntriesVeiled
import Derived.Deep.AppendLies
import Derived.Test.YtmldpehkacemfaaGreatDoorK5
set_option linter.unusedSimpArgs false
set_option linter.unusedVariables false
namespace Go.Proofs.YtmldpehkacemfaaGreatDoor
open Go.RowKit Go.Bd
inductive ChOut (w w' : World) (F Ro : Nat → Prop) (db size : Nat) (hist : List Raw) (n : Nat) (wr0 : List (ByteArray × Bs)) (rm : List ByteArray) : Int → Prop
  | arg (h : ¬ Allow (runR hist) (wr0.map (·.1)) rm) (hd : DkTo w w' F Ro db size hist) : ChOut w w' F Ro db size hist n wr0 rm 1
  | full (l : List (ByteArray × Bs)) (hp : l.Perm wr0) (h : ¬ RoomP (runR hist) size n ⟨rm, l⟩ (⟨rm, l⟩ : Plan).log.length) (ha : Allow (runR hist) (wr0.map (·.1)) rm) (hd : DkTo w w' F Ro db size hist) : ChOut w w' F Ro db size hist n wr0 rm 6
  | ok (l : List (ByteArray × Bs)) (hp : l.Perm wr0) (h : RoomP (runR hist) size n ⟨rm, l⟩ (⟨rm, l⟩ : Plan).log.length) (ha : Allow (runR hist) (wr0.map (·.1)) rm) (z : Bs) (hz : z.length ≤ (⟨rm, l⟩ : Plan).log.length + textsN l) (hd : DkTo w w' F Ro db size (runO size (changeO ⟨rm, l⟩ n (runR hist) z) hist)) : ChOut w w' F Ro db size hist n wr0 rm 0
set_option maxRecDepth 100000 in
set_option maxHeartbeats 8000000 in
theorem change_any {w : World} {F Ro : Nat → Prop} {db size : Nat} {hist : List Raw} (h : Dk w F Ro db size hist) {n : Nat} {S : Fs} (hc : Clean n S (runR hist)) (hS : Mine S) (hn : n < 97) (wr0 : List (ByteArray × Bs)) (rm : List ByteArray) (wv rv : Value)
    (hW : FilesS w (fun k => k < w.heap.size ∧ ¬ F k) wv wr0) (hR : TextsS w (fun k => k < w.heap.size ∧ ¬ F k) rv rm) (hg : (⟨rm, wr0⟩ : Plan).weigh ≤ 40000) (hh : hist.length ≤ 150000) (hsz : size ≤ 8388608) :
    Calls Tryz.prog 9 #[.pointer (some ⟨db, 0, none⟩), wv, rv] w fun e w' => ∃ code, e = .returned (.int .i64 code) ∧ ChOut w w' F Ro db size hist n wr0 rm code := by
  have hmf : ∀ (fn : Fn) (first cap : Array Value) (w : World), (Instr.makeFunc fn first cap).run Tryz.prog w = .ok (.func fn first cap) w := fun _ _ _ _ => rfl
  obtain ⟨g1, g2, g3, g4, g5, g6⟩ := weigh_w hg
  simp only at g1 g2 g3 g4 g5
  have hset := settle_clean hc (by omega)
  have hkn := clean_kinds hc (by omega)
  have hnm := clean_named hc hS (by omega)
  have hsb := sizeF_bounds h (by omega)
  have HK := Lib.hid (And.intro hset (And.intro hkn (And.intro hnm hsb)))
  have HG := Lib.hid (And.intro hg (And.intro g4 g5))
  have hc0 := Ch.start h
  have hb1 := (Below.refl w.heap.size w).alloc (Nat.le_refl _) (.cells #[.pointer (some ⟨db, 0, none⟩)] 28)
  obtain ⟨x3, hx3⟩ : ∃ x3, w.heap.size = x3 := ⟨_, rfl⟩
  have hc1 := hc0.box (.cells #[.pointer (some ⟨db, 0, none⟩)] 28) hx3
  have h3 := Holds.new w 28 #[.pointer (some ⟨db, 0, none⟩)]
  obtain ⟨W1, hW1⟩ : ∃ W1, w.alloc (.cells #[.pointer (some ⟨db, 0, none⟩)] 28) = W1 := ⟨_, rfl⟩
  rw [hW1] at hb1 hc1 h3
  rw [hx3] at h3
  have hFW : ∀ W, Below w.heap.size w W → FilesS W (fun k => k < x3 ∧ ¬ F k) wv wr0 ∧ TextsS W (fun k => k < x3 ∧ ¬ F k) rv rm := fun W hb => ⟨hW.chg (Chg.below hb (fun _ => False)) (fun k hk => ⟨⟨by omega, hk.2⟩, fun h => h⟩), hR.chg (Chg.below hb (fun _ => False)) (fun k hk => ⟨⟨by omega, hk.2⟩, fun h => h⟩)⟩
  obtain ⟨Aw, cw, rfl, _⟩ := hW
  obtain ⟨Ar, cr, rfl, _⟩ := hR
  have HFW := Lib.hid hFW
  have ht := there_j hc1.dk (by omega)
  have p3 := h3.cell 0
  simp at p3
  have H1 := Lib.hid (And.intro hc1 (And.intro h3 (And.intro hb1 hx3)))
  have HT := Lib.hid ht
  clear h hc hS hg hset hkn hnm hsb hc0 hb1 hc1 h3 hFW ht
  go_enter_defers Tryz.func9, Tryz.ntmps9
  refine Code.wp_mono (noP_mono _) ?_
  go_wp2_with fail
  (try rw [hW1])
  (try rw [hx3])
  clear hW1 hx3
  go_wp2_with fail
  refine HT.out.mono ?_
  rintro e W2 ⟨rfl, hb2⟩
  have hc2 := H1.out.1.later hb2
  have h3 := holds_later H1.out.2.1 hb2
  have hB2 := H1.out.2.2.1.trans (hb2.mono H1.out.2.2.1.size)
  have p3 := h3.cell 0
  simp at p3
  have hlx := h3.lt
  have H2 := Lib.hid (And.intro hc2 (And.intro h3 hB2))
  clear hb2 hc2 h3 hB2 HT
  go_wp2_with fail
  obtain ⟨wv, hwv⟩ : ∃ x, x = W2 := ⟨_, rfl⟩
  subst hwv
  have hA := H2.out.1
  have hB := H2.out.2.2
  have h3 := H2.out.2.1
  refine wp_region_held_drew (S := (fun w' => w'.cell? ⟨x3, 0, none⟩ = some (.pointer (some ⟨db, 0, none⟩)))) (by kernel_rfl) ?_ (fun hHeld0 => ?_)
  · (try dsimp only)
    exact p3
  refine wpAnyH_take (i := 0) (oi := ⟨some 20, _, _, _, _, _⟩) (v := ?_) rfl (by kernel_rfl) (by kernel_rfl) (by kernel_rfl) (fun _ _ _ h => h) (Or.inl ⟨by kernel_rfl, ?_⟩) (by assumption) ?_
  rotate_left
  · (intro w hSw; (try dsimp only at hSw); go_simp; (first | done | with_reducible rfl))
  (try simp only [Act.put, List.setIfInBounds_toArray, List.set_cons_zero, List.set_cons_succ])
  refine wpAnyH_take (i := 1) (oi := ⟨some 21, _, _, _, _, _⟩) (v := ?_) rfl (by kernel_rfl) (by kernel_rfl) (by kernel_rfl) (fun _ _ _ h => h) (Or.inl ⟨by kernel_rfl, ?_⟩) (by assumption) ?_
  rotate_left
  · (intro w hSw; (try dsimp only at hSw); go_simp; (first | done | with_reducible rfl))
  (try simp only [Act.put, List.setIfInBounds_toArray, List.set_cons_zero, List.set_cons_succ])
  refine wpAnyH_take (i := 3) (oi := ⟨some 23, _, _, _, _, _⟩) (v := ?_) rfl (by kernel_rfl) (by kernel_rfl) (by kernel_rfl) (fun _ _ _ h => h) (Or.inl ⟨by kernel_rfl, ?_⟩) (by assumption) ?_
  rotate_left
  · (intro w hSw; (try dsimp only at hSw); go_simp; (first | done | with_reducible rfl))
  (try simp only [Act.put, List.setIfInBounds_toArray, List.set_cons_zero, List.set_cons_succ])
  refine wpAnyH_take (i := 4) (oi := ⟨some 24, _, _, _, _, _⟩) (v := ?_) rfl (by kernel_rfl) (by kernel_rfl) (by kernel_rfl) (fun _ _ _ h => h) (Or.inl ⟨by kernel_rfl, ?_⟩) (by assumption) ?_
  rotate_left
  · (intro w hSw; (try dsimp only at hSw); go_simp; (first | done | with_reducible rfl))
  (try simp only [Act.put, List.setIfInBounds_toArray, List.set_cons_zero, List.set_cons_succ])
  refine wpAnyH_ready (rs := [2]) (by kernel_rfl) (by simp) ?_
  refine AllReadyH.cons (o := ⟨some 22, _, _, _, _, _⟩) rfl (fun K hK => ?_) AllReadyH.nil
  go_simp
  first
  | refine (sizes_any hA.dk HK.out.2.2.1 (by omega)).mono ?_
  | (replace hA := hA.later (Below.refl _ _).drew; replace hB := hB.drew; replace h3 := holds_later h3 (Below.refl _ _).drew; refine (sizes_any hA.dk HK.out.2.2.1 (by omega)).mono ?_)
  rintro e wv ⟨bm, rfl, hbm, hI, hbx⟩
  replace p3 := (hbx.cell (p := ⟨x3, 0, none⟩) (by first | exact hlx | (show x3 < _; exact (hA.b x3 (by simp)).2))).trans p3
  replace hA := hA.later hbx
  replace h3 := holds_later h3 hbx
  replace hB := hB.trans (hbx.mono hB.size)
  clear hbx
  refine hK.out _ _ ?_ (fun hHeld1 => ?_)
  · (try dsimp only)
    exact p3
  clear hK K hHeld0
  (try simp only [Act.put, List.setIfInBounds_toArray, List.set_cons_zero, List.set_cons_succ])
  refine wpAnyH_ready (rs := [5]) (by kernel_rfl) (by simp) ?_
  refine AllReadyH.cons (o := ⟨some 25, _, _, _, _, _⟩) rfl (fun K hK => ?_) AllReadyH.nil
  go_simp
  first
  | refine (allowed_any hA.dk hI wr0 rm _ _ ((HFW.out _ hB).1.chg (Chg.refl _ (fun _ => False)) (fun k hk => ⟨by have := hB.size; have := H1.out.2.2.2; omega, fun h => h⟩)) ((HFW.out _ hB).2.chg (Chg.refl _ (fun _ => False)) (fun k hk => ⟨by have := hB.size; have := H1.out.2.2.2; omega, fun h => h⟩)) ⟨by omega, by omega⟩ ⟨fun f hf => by have := (HG.out.2.1 f hf).1; omega, fun s hs => by have := HG.out.2.2 s hs; omega⟩ (by omega)).mono ?_
  | (replace hA := hA.later (Below.refl _ _).drew; replace hB := hB.drew; replace h3 := holds_later h3 (Below.refl _ _).drew; replace hI := hI.below (Below.refl _ _).drew; refine (allowed_any hA.dk hI wr0 rm _ _ ((HFW.out _ hB).1.chg (Chg.refl _ (fun _ => False)) (fun k hk => ⟨by have := hB.size; have := H1.out.2.2.2; omega, fun h => h⟩)) ((HFW.out _ hB).2.chg (Chg.refl _ (fun _ => False)) (fun k hk => ⟨by have := hB.size; have := H1.out.2.2.2; omega, fun h => h⟩)) ⟨by omega, by omega⟩ ⟨fun f hf => by have := (HG.out.2.1 f hf).1; omega, fun s hs => by have := HG.out.2.2 s hs; omega⟩ (by omega)).mono ?_)
  rintro e wv ⟨ba, hba, rfl, hbx⟩
  replace p3 := (hbx.cell (p := ⟨x3, 0, none⟩) (hA.b x3 (by simp)).2).trans p3
  replace hA := hA.later hbx
  replace h3 := holds_later h3 hbx
  replace hB := hB.trans (hbx.mono hB.size)
  have HBA := Lib.hid hba
  clear hbx hba
  refine hK.out _ _ ?_ (fun hHeld2 => ?_)
  · (try dsimp only)
    exact p3
  clear hK K hHeld1
  (try simp only [Act.put, List.setIfInBounds_toArray, List.set_cons_zero, List.set_cons_succ])
  refine wpAnyH_take (i := 6) (oi := ⟨some 26, _, _, _, _, _⟩) (v := ?_) rfl (by kernel_rfl) (by kernel_rfl) (by kernel_rfl) (fun _ _ _ h => h) (Or.inl ⟨by kernel_rfl, ?_⟩) (by assumption) ?_
  rotate_left
  · (intro w hSw; (try dsimp only at hSw); go_simp; (first | done | with_reducible rfl))
  (try simp only [Act.put, List.setIfInBounds_toArray, List.set_cons_zero, List.set_cons_succ])
  refine wpAnyH_done (by kernel_rfl) ?_ _
  clear hI
  cases ba with
  | false =>
    go_wp2_with fail
    exact ⟨_, results_tmp rfl _ _ _, 1, rfl, .arg (fun e => by have := HBA.out.2 e; cases this) (by first | exact hA.to | exact (hA.later (Below.refl _ _).drew).to)⟩
  | true =>
    have HALL := Lib.hid (HBA.out.1 rfl)
    obtain ⟨W3, hW3⟩ : ∃ x, x = wv := ⟨_, rfl⟩
    subst hW3
    have hvs := vast_any W3 wr0 _ ((HFW.out _ hB).1.chg (Chg.refl _ (fun _ => False)) (fun k hk => ⟨by have := hB.size; have := H1.out.2.2.2; omega, fun h => h⟩)) (by omega) (by omega)
    have HVS := Lib.hid hvs
    clear hvs
    go_wp2_with fail
    refine HVS.out.mono ?_
    rintro e W4 ⟨rfl, hb4⟩
    have hc4 := hA.later hb4
    have hB4 := hB.trans (hb4.mono hB.size)
    have hst := settle_any hc4.dk HK.out.2.1 (by omega) (by rw [HK.out.1]; simp [costO]) hsz
    rw [HK.out.1] at hst
    replace p3 := (hb4.cell (p := ⟨x3, 0, none⟩) (hA.b x3 (by simp)).2).trans p3
    have h34 := holds_later h3 hb4
    have HST := Lib.hid hst
    have H4 := Lib.hid (And.intro hc4 (And.intro hB4 h34))
    clear hA hB hb4 hc4 hB4 hst HVS HBA h34 h3
    go_wp2_with fail
    refine HST.out.mono ?_
    rintro e W5 ⟨rfl, hd5⟩
    obtain ⟨F1, Ro1, hc5, hch5, hF15⟩ := H4.out.1.call hd5
    have hfw5 := (HFW.out W4 H4.out.2.1).1.chg (S' := fun k => k < x3 ∧ ¬ F k) hch5 (fun k hk => ⟨hk, hk.2⟩)
    have htw5 := (HFW.out W4 H4.out.2.1).2.chg (S' := fun k => k < x3 ∧ ¬ F k) hch5 (fun k hk => ⟨hk, hk.2⟩)
    have h35 := hch5.holds (H4.out.1.b x3 (by simp)).1 H4.out.2.2
    obtain ⟨x7, hx7⟩ : ∃ x7, W5.heap.size = x7 := ⟨_, rfl⟩
    have hb6 := (Below.refl W5.heap.size W5).alloc (Nat.le_refl _) (.cells #[.int .u64 (n : Int)] 32)
    have hc6 := hc5.box (.cells #[.int .u64 (n : Int)] 32) hx7
    have h76 := Holds.new W5 32 #[.int .u64 (n : Int)]
    obtain ⟨W6, hW6⟩ : ∃ W6, W5.alloc (.cells #[.int .u64 (n : Int)] 32) = W6 := ⟨_, rfl⟩
    rw [hW6] at hb6 hc6 h76
    rw [hx7] at h76
    have h36 := holds_later h35 hb6
    have hsz6 := sizes_any hc6.dk HK.out.2.2.1 (by show hist.length ≤ 800000; omega)
    have hx35 : x3 < W5.heap.size := (hc5.b x3 (by simp)).2
    have p36 := h36.cell 0
    have p35 := h35.cell 0
    simp at p36 p35
    have H6 := Lib.hid (And.intro hc6 (And.intro h76 (And.intro h36 (And.intro (hfw5.chg (S' := fun k => k < x3 ∧ ¬ F k) (Chg.below hb6 (fun _ => False)) (fun k hk => ⟨hk, fun h => h⟩)) (htw5.chg (S' := fun k => k < x3 ∧ ¬ F k) (Chg.below hb6 (fun _ => False)) (fun k hk => ⟨hk, fun h => h⟩))))))
    have HSZ6 := Lib.hid hsz6
    clear hd5 hc5 hch5 hF15 hfw5 htw5 h35 hb6 hc6 h76 h36 hsz6 p3
    go_wp2_with fail
    (try rw [hW6])
    (try rw [hx7])
    clear hW6 hx7
    go_wp2_with fail
    refine HSZ6.out.mono ?_
    rintro e W7 ⟨bm7, rfl, hbm7, hI7, hb7⟩
    have hc7 := (H6.out.1.later hb7).more (x := bm7) (fun e => by have := H6.out.1.dk.ltF _ e; omega) hI7.lt
    have h37 := holds_later H6.out.2.2.1 hb7
    have h77 := holds_later H6.out.2.1 hb7
    obtain ⟨x8, hx8⟩ : ∃ x8, W7.heap.size = x8 := ⟨_, rfl⟩
    have hb8 := (Below.refl W7.heap.size W7).alloc (Nat.le_refl _) (.cells #[.map (some bm7)] 58)
    have hc8 := hc7.box (.cells #[.map (some bm7)] 58) hx8
    have h88 := Holds.new W7 58 #[.map (some bm7)]
    obtain ⟨W8, hW8⟩ : ∃ W8, W7.alloc (.cells #[.map (some bm7)] 58) = W8 := ⟨_, rfl⟩
    rw [hW8] at hb8 hc8 h88
    rw [hx8] at h88
    have hM8 : Mx W8 db n bm7 (namesB (runR hist)).length (sizeF (runR hist)) x3 x7 x8 := ⟨holds_later h37 hb8, holds_later h77 hb8, h88, hI7.below hb8⟩
    have hb68 := hb7.trans (hb8.mono hb7.size)
    have hfw8 := H6.out.2.2.2.1.chg (S' := fun k => k < x3 ∧ ¬ F k) (Chg.below hb68 (fun _ => False)) (fun k hk => ⟨hk, fun h => h⟩)
    have htw8 := H6.out.2.2.2.2.chg (S' := fun k => k < x3 ∧ ¬ F k) (Chg.below hb68 (fun _ => False)) (fun k hk => ⟨hk, fun h => h⟩)
    have hx38 := (hc8.b x3 (by simp)).2
    have hcl8 := cloneT_any rm _ _ W8 htw8 (fun k hk => by have := hk.1; omega) (by omega)
    have HCL8 := Lib.hid hcl8
    have H8 := Lib.hid (And.intro hc8 (And.intro hM8 hfw8))
    clear hbm7 hI7 hb7 hc7 h37 h77 hb8 hc8 h88 hM8 hb68 hfw8 htw8 hcl8 HSZ6
    go_wp2_with fail
    (try rw [hW8])
    (try rw [hx8])
    clear hW8 hx8
    go_wp2_with fail
    refine HCL8.out.mono ?_
    rintro e W9 ⟨rv9, rfl, hr9, hb9⟩
    obtain ⟨rA9, rc9, rfl, _⟩ := own_slice2 hr9
    have hc9 := H8.out.1.later hb9
    have hM9 := H8.out.2.1.later hb9
    have hfw9 := H8.out.2.2.chg (S' := fun k => k < x3 ∧ ¬ F k) (Chg.below hb9 (fun _ => False)) (fun k hk => ⟨hk, fun h => h⟩)
    have hcl9 := cloneF_any wr0 _ _ W9 hfw9 (fun k hk => by have := hk.1; have := (hc9.b x3 (by simp)).2; omega) (by omega)
    have HCL9 := Lib.hid hcl9
    have H9 := Lib.hid (And.intro hc9 (And.intro hM9 hr9))
    have HZ9 := Lib.hid hb9.size
    clear hr9 hb9 hc9 hM9 hfw9 hcl9 HCL8
    go_wp2_with fail
    refine HCL9.out.mono ?_
    rintro e W10 ⟨wv10, rfl, hw10, hb10⟩
    obtain ⟨wA10, wc10, rfl, _⟩ := own_slice2 hw10
    have hc10 := H9.out.1.later hb10
    have hM10 := H9.out.2.1.later hb10
    have hr10 := (Chg.below hb10 (fun _ => False)).owns H9.out.2.2 (fun _ _ h => h)
    obtain ⟨x9, hx9⟩ : ∃ x9, W10.heap.size = x9 := ⟨_, rfl⟩
    have hb11 := (Below.refl W10.heap.size W10).alloc (Nat.le_refl _) (.cells #[.slice rA9 rm.length rc9, .slice wA10 wr0.length wc10] 64)
    have hc11 := hc10.box (.cells #[.slice rA9 rm.length rc9, .slice wA10 wr0.length wc10] 64) hx9
    have h911 := Holds.new W10 64 #[.slice rA9 rm.length rc9, .slice wA10 wr0.length wc10]
    obtain ⟨W11, hW11⟩ : ∃ W11, W10.alloc (.cells #[.slice rA9 rm.length rc9, .slice wA10 wr0.length wc10] 64) = W11 := ⟨_, rfl⟩
    have hs11 : W11.heap.size = x9 + 1 := by rw [← hW11, ← hx9]; simp
    rw [hW11] at hb11 hc11 h911
    rw [hx9] at h911
    obtain ⟨x10, hx10⟩ : ∃ x10, W11.heap.size = x10 := ⟨_, rfl⟩
    have hb12 := (Below.refl W11.heap.size W11).alloc (Nat.le_refl _) (.cells #[.func (.func 23) #[] #[.pointer (some ⟨x8, 0, none⟩)]] 65)
    have hc12 := hc11.box (.cells #[.func (.func 23) #[] #[.pointer (some ⟨x8, 0, none⟩)]] 65) hx10
    have h1012 := Holds.new W11 65 #[.func (.func 23) #[] #[.pointer (some ⟨x8, 0, none⟩)]]
    obtain ⟨W12, hW12⟩ : ∃ W12, W11.alloc (.cells #[.func (.func 23) #[] #[.pointer (some ⟨x8, 0, none⟩)]] 65) = W12 := ⟨_, rfl⟩
    rw [hW12] at hb12 hc12 h1012
    rw [hx10] at h1012
    have h912 := holds_later h911 hb12
    have hb1012 := hb11.trans (hb12.mono hb11.size)
    have hM12 := hM10.later hb1012
    have hr12 := (TextsS.own H9.out.2.2 rfl).chg (S' := fun k => W8.heap.size ≤ k ∧ k < W9.heap.size) (Chg.below (hb10.trans (hb1012.mono hb10.size)) (fun _ => False)) (fun k hk => ⟨hk, fun h => h⟩)
    have hz910 := hb10.size
    rw [hx9] at hz910
    have hw12 := (Chg.below hb1012 (fun _ => False)).owns hw10 (fun _ _ h => h)
    have hgl : ∀ g, (Value.slice wA10 wr0.length wc10).ownBlock = some g → W9.heap.size ≤ g ∧ g < x9 := fun g hg => by have := hw10.lt g hg; omega
    have hb89 := hc10.b
    have hx9l : ∀ k ∈ [x8, bm7, x7, x3], k < W9.heap.size := fun k hk => (H9.out.1.b k hk).2
    have hsrt := sortC_any (gb := x10) hw12 (by omega) (fun g hg W hW x hx y hy => by
      obtain ⟨q1, q2⟩ := hgl g hg
      have l8 := hx9l x8 (by simp)
      have lb := hx9l bm7 (by simp)
      have := HG.out.2.1 x hx
      have := HG.out.2.1 y hy
      have e1 : (⟨x.2.toArray⟩ : ByteArray).size = x.2.length := size_mk _
      have e2 : (⟨y.2.toArray⟩ : ByteArray).size = y.2.length := size_mk _
      exact cmp_any (hW.holds (by omega) h1012) (hW.holds (by omega) hM12.h8) (hM12.im.chg hW (by omega)) x.1 ⟨x.2.toArray⟩ y.1 ⟨y.2.toArray⟩ ⟨by omega, by omega, by omega, by omega⟩ HK.out.2.2.2)
    have p912 := h912.cell 1
    have p911 := h911.cell 1
    simp at p912 p911
    have HSRT := Lib.hid hsrt
    have H12 := Lib.hid (And.intro hc12 (And.intro hM12 (And.intro h912 (And.intro hr12 (And.intro hgl hx9l)))))
    have HZ12 := Lib.hid (And.intro hs11 (And.intro hx10 hz910))
    have HX9 := Lib.hid (And.intro hW11 hx9)
    have HX10 := Lib.hid (And.intro hW12 hx10)
    clear hw10 hb10 hc10 hM10 hr10 hb11 hc11 h911 hb12 hc12 h1012 h912 hb1012 hM12 hr12 hw12 hgl hb89 hx9l hsrt HCL9 hs11 hW11 hx9 hW12 hx10
    go_wp2_with fail
    have e10 : x9 + 1 = x10 := by rw [← HZ12.out.1, HZ12.out.2.1]
    rw [HX9.out.1, HX9.out.2, HX10.out.1, e10]
    refine HSRT.out.mono ?_
    rintro e W13 ⟨rfl, l', hp, hfs13, hch13⟩
    have hll := hp.length_eq
    have hgw := weigh_perm hp rm
    have hg' : (⟨rm, l'⟩ : Plan).weigh ≤ 40000 := by rw [hgw]; exact HG.out.1
    obtain ⟨u1, u2, u3, u4, u5, u6⟩ := weigh_w hg'
    simp only at u1 u2 u3 u4 u5
    have hgb := grow_bounds (f := sizeF (runR hist)) hg' HK.out.2.2.2
    have l3 := H12.out.2.2.2.2.2 x3 (by simp)
    have l8 := H12.out.2.2.2.2.2 x8 (by simp)
    have lb := H12.out.2.2.2.2.2 bm7 (by simp)
    have l7 := H12.out.2.2.2.2.2 x7 (by simp)
    have hnG : ∀ k, k < W9.heap.size ∨ x9 ≤ k → ¬ ((Value.slice wA10 wr0.length wc10).ownBlock = some k) := fun k hk e => by have := H12.out.2.2.2.2.1 k e; omega
    have hc13 : Ch w W13 F Ro F1 Ro1 db size hist [x10, x9, x8, bm7, x7, x3] := by
      have hq := H12.out.1
      have hsz' := hch13.size
      refine ⟨hq.dk.chg hch13 (fun k hk e => ?_) (fun k hk e => ?_), hq.f, hq.r, hq.c.trans hch13 (fun k hk e => ?_), fun k hk => ⟨(hq.b k hk).1, Nat.lt_of_lt_of_le (hq.b k hk).2 hsz'⟩⟩
      · have := H12.out.2.2.2.2.1 k e; have := H9.out.1.dk.ltF k hk; omega
      · have := H12.out.2.2.2.2.1 k e; have := H9.out.1.dk.ltR k hk; omega
      · have := H12.out.2.2.2.2.1 k e; have := (H9.out.1.c.size); omega
    have hM13 := H12.out.2.1.chg hch13 ⟨hnG _ (.inl l3), hnG _ (.inl l7), hnG _ (.inl l8), hnG _ (.inl lb)⟩
    have h913 := hch13.holds (hnG _ (.inr (Nat.le_refl _))) H12.out.2.2.1
    have hr13 := H12.out.2.2.2.1.chg (S' := fun k => W8.heap.size ≤ k ∧ k < W9.heap.size) hch13 (fun k hk => ⟨hk, hnG k (.inl hk.2)⟩)
    have hx913 := (hc13.b x9 (by simp)).2
    have hz910 := HZ12.out.2.2
    have hz89 := HZ9.out
    have hlsz := log_size ⟨rm, l'⟩
    have hln := log_len ⟨rm, l'⟩
    have htl : (⟨rm, l'⟩ : Plan).tail.length = 16 + (rm.flatMap fun s => text8B s.data.toList).length + (l'.flatMap fun f => text8B f.1.data.toList ++ text8B f.2).length := by
      show (num8 rm.length ++ (rm.flatMap fun s => text8B s.data.toList) ++ (num8 l'.length ++ l'.flatMap fun f => text8B f.1.data.toList ++ text8B f.2)).length = _
      rw [List.length_append, List.length_append, List.length_append, num8_len, num8_len]
      omega
    have hby := bytes_any rm l' _ _ W13 W13.heap.size (Nat.le_refl _) (hr13.toR (fun k hk => by have := hk.2; omega)) (hfs13.toR (fun k hk => by have := H12.out.2.2.2.2.1 k hk; omega)) (by omega) (by omega) _ rfl _ rfl (by omega) (⟨rm, l'⟩ : Plan).tail rfl
    have elog : num8 (8 + (⟨rm, l'⟩ : Plan).tail.length) ++ (⟨rm, l'⟩ : Plan).tail = (⟨rm, l'⟩ : Plan).log := rfl
    rw [elog] at hby
    obtain ⟨lg, hlg⟩ : ∃ lg, (⟨rm, l'⟩ : Plan).log = lg := ⟨_, rfl⟩
    rw [hlg] at hby u6
    have y0 := h913.cell 0
    have y1 := h913.cell 1
    simp at y0 y1
    have HBY := Lib.hid hby
    have H13 := Lib.hid (And.intro hc13 (And.intro hM13 (And.intro h913 (And.intro hr13 (And.intro (hfs13.chg (S' := fun k => W9.heap.size ≤ k ∧ k < x9) (Chg.refl _ (fun _ => False)) (fun k hk => ⟨H12.out.2.2.2.2.1 k hk, fun h => h⟩)) hlg)))))
    have HP := Lib.hid (And.intro hp (And.intro hg' hgb))
    have HB13 := Lib.hid (And.intro u4 (And.intro u5 hll))
    clear hfs13 hch13 hgw hg' hgb hnG hc13 hM13 h913 hr13 hlsz hln htl hby elog hlg u4 u5 hp
    go_wp2_with fail
    refine HBY.out.mono ?_
    rintro e W14 ⟨v14, rfl, ho14, hb14⟩
    obtain ⟨bA, bc, rfl, hbc⟩ := own_slice2 ho14
    have hc14 := H13.out.1.later hb14
    have hM14 := H13.out.2.1.later hb14
    have h914 := holds_later H13.out.2.2.1 hb14
    have hr14 := H13.out.2.2.2.1.chg (S' := fun k => W8.heap.size ≤ k ∧ k < W9.heap.size) (Chg.below hb14 (fun _ => False)) (fun k hk => ⟨hk, fun h => h⟩)
    have hf14 := H13.out.2.2.2.2.1.chg (S' := fun k => W9.heap.size ≤ k ∧ k < x9) (Chg.below hb14 (fun _ => False)) (fun k hk => ⟨hk, fun h => h⟩)
    have hL14 : InB W14 F1 bA lg := own_inb ho14 H13.out.1.dk.ltF
    obtain ⟨xb, hxb⟩ : ∃ xb, W14.heap.size = xb := ⟨_, rfl⟩
    have hb15 := (Below.refl W14.heap.size W14).alloc (Nat.le_refl _) (.cells #[.slice bA lg.length bc] 69)
    have hc15 := hc14.box (.cells #[.slice bA lg.length bc] 69) hxb
    have hb15' := Holds.new W14 69 #[.slice bA lg.length bc]
    obtain ⟨W15, hW15⟩ : ∃ W15, W14.alloc (.cells #[.slice bA lg.length bc] 69) = W15 := ⟨_, rfl⟩
    rw [hW15] at hb15 hc15 hb15'
    rw [hxb] at hb15'
    have hM15 := hM14.later hb15
    have h915 := holds_later h914 hb15
    have hr15 := hr14.chg (S' := fun k => W8.heap.size ≤ k ∧ k < W9.heap.size) (Chg.below hb15 (fun _ => False)) (fun k hk => ⟨hk, fun h => h⟩)
    have hf15 := hf14.chg (S' := fun k => W9.heap.size ≤ k ∧ k < x9) (Chg.below hb15 (fun _ => False)) (fun k hk => ⟨hk, fun h => h⟩)
    have hL15 := hL14.chg (Chg.below hb15 F1)
    obtain ⟨b, hb⟩ := bool_of (RoomP (runR hist) size n ⟨rm, l'⟩ lg.length)
    have hx915 := (hc15.b x9 (by simp)).2
    have hrm15 := room_any hc15.dk hM15.im (hc15.b bm7 (by simp)).1 ⟨rm, l'⟩ _ _ (hr15.chg (S' := fun k => k < W15.heap.size) (Chg.refl _ (fun _ => False)) (fun k hk => ⟨by have := hk.2; omega, fun h => h⟩)) (hf15.chg (S' := fun k => k < W15.heap.size) (Chg.refl _ (fun _ => False)) (fun k hk => ⟨by have := hk.2; omega, fun h => h⟩)) ⟨by show rm.length ≤ 1000000; omega, by show l'.length ≤ 1000000; omega⟩ ⟨fun s hs => by have := HB13.out.2.1 s hs; omega, fun x hx => by have := HB13.out.1 x hx; omega⟩ n (by omega) lg.length (by omega) HP.out.2.2.1 HP.out.2.2.2 (by omega) hsz b hb
    have p3 := hM15.h3.cell 0
    have p7 := hM15.h7.cell 0
    have p8 := hM15.h8.cell 0
    have y0 := h915.cell 0
    have y1 := h915.cell 1
    have pb := hb15'.cell 0
    simp at p3 p7 p8 y0 y1 pb
    have hK15 : Kx W15 F1 db n bm7 (namesB (runR hist)).length (sizeF (runR hist)) x3 x7 x8 x9 xb W8.heap.size (.slice rA9 rm.length rc9) (.slice wA10 wr0.length wc10) rm l' bA bc lg := ⟨hM15, h915, hb15', hr15.chg (S' := fun k => W8.heap.size ≤ k ∧ k < x9) (Chg.refl _ (fun _ => False)) (fun k hk => ⟨⟨hk.1, by have := hk.2; omega⟩, fun h => h⟩), hf15.chg (S' := fun k => W8.heap.size ≤ k ∧ k < x9) (Chg.refl _ (fun _ => False)) (fun k hk => ⟨⟨by have := hk.1; have := H9.out.1.c.size; have := hz89; omega, hk.2⟩, fun h => h⟩), hL15, fun k hk => by
      simp only [List.mem_cons, List.not_mem_nil, or_false] at hk
      rcases hk with rfl | rfl | rfl | rfl | rfl | rfl <;> exact hc15.b _ (by simp), fun k h1 h2 e => by have := H8.out.1.dk.ltF k e; omega⟩
    have HRM := Lib.hid hrm15
    have H15 := Lib.hid (And.intro hc15 hK15)
    have HRB := Lib.hid hb
    clear ho14 hb14 hc14 hM14 h914 hr14 hf14 hL14 hb15 hc15 hb15' hM15 h915 hr15 hf15 hL15 hb hrm15 hK15
    go_wp2_with fail
    (try rw [hW15])
    (try rw [hxb])
    clear hW15 hxb
    go_wp2_with fail
    refine HRM.out.mono ?_
    rintro e W16 ⟨rfl, hd16⟩
    cases b with
    | false =>
      rw [if_neg (by decide)] at hd16
      obtain ⟨F2, Ro2, hc16, _, _⟩ := H15.out.1.call hd16
      have HC16 := Lib.hid hc16.to
      clear hd16 hc16
      go_wp2_with fail
      exact ⟨_, results_tmp rfl _ _ _, 6, rfl, .full l' HP.out.1 (fun h => by have := HRB.out.2 (by rw [H13.out.2.2.2.2.2] at h; exact h); cases this) HALL.out HC16.out⟩
    | true =>
      rw [if_pos rfl] at hd16
      have hroom := Lib.hid (HRB.out.1 rfl)
      obtain ⟨F2, Ro2, hc16, hch16, hF2⟩ := H15.out.1.call hd16
      have hK16 := H15.out.2.step hch16 hF2
      obtain ⟨z, hz⟩ : ∃ z, zerosB (zN (sizeF (runR hist)) ⟨rm, l'⟩ lg.length) = z := ⟨_, rfl⟩
      have hzl : z.length ≤ 10700000 := by
        rw [← hz, zerosB_length]
        unfold zN
        have := HP.out.2.2.1
        omega
      have hzc := runO_cost size [.wr trialN z, .rm trialN] hist
      have hzc2 : costO [.wr trialN z, .rm trialN] = z.length / 512 + 2 + 1 := rfl
      rw [hz] at hc16 hd16
      obtain ⟨h16, hh16⟩ : ∃ h16, runO size [.wr trialN z, .rm trialN] hist = h16 := ⟨_, rfl⟩
      rw [hh16] at hc16 hzc
      have hl16 : h16.length ≤ 180000 := by omega
      have hoc := ops_cost ⟨rm, l'⟩
      rw [show (⟨rm, l'⟩ : Plan).rm = rm from rfl, show (⟨rm, l'⟩ : Plan).wr = l' from rfl] at hoc
      obtain ⟨st, hst⟩ : ∃ st, W16.heap.size = st := ⟨_, rfl⟩
      have hb17 := (Below.refl W16.heap.size W16).alloc (Nat.le_refl _) (.cells #[.func (.func 30) #[] #[.pointer (some ⟨x3, 0, none⟩), .pointer (some ⟨x7, 0, none⟩), .pointer (some ⟨xb, 0, none⟩)], .func (.func 33) #[] #[.pointer (some ⟨x9, 0, none⟩), .pointer (some ⟨x3, 0, none⟩)]] 1)
      have hc17 := hc16.box (.cells #[.func (.func 30) #[] #[.pointer (some ⟨x3, 0, none⟩), .pointer (some ⟨x7, 0, none⟩), .pointer (some ⟨xb, 0, none⟩)], .func (.func 33) #[] #[.pointer (some ⟨x9, 0, none⟩), .pointer (some ⟨x3, 0, none⟩)]] 1) hst
      have hs17 := Holds.new W16 1 #[.func (.func 30) #[] #[.pointer (some ⟨x3, 0, none⟩), .pointer (some ⟨x7, 0, none⟩), .pointer (some ⟨xb, 0, none⟩)], .func (.func 33) #[] #[.pointer (some ⟨x9, 0, none⟩), .pointer (some ⟨x3, 0, none⟩)]]
      obtain ⟨W17, hW17⟩ : ∃ W17, W16.alloc (.cells #[.func (.func 30) #[] #[.pointer (some ⟨x3, 0, none⟩), .pointer (some ⟨x7, 0, none⟩), .pointer (some ⟨xb, 0, none⟩)], .func (.func 33) #[] #[.pointer (some ⟨x9, 0, none⟩), .pointer (some ⟨x3, 0, none⟩)]] 1) = W17 := ⟨_, rfl⟩
      rw [hW17] at hb17 hc17 hs17
      rw [hst] at hs17
      have hK17 := hK16.later hb17
      have p3 := hK16.m.h3.cell 0
      have p7 := hK16.m.h7.cell 0
      simp at p3 p7
      have k7 := hK17.m.h7.cell 0
      have k8 := hK17.m.h8.cell 0
      simp at k7 k8
      have hcs := cnt_size n
      have hlk := hK17.m.im.look_ok (s := cntN n) (by simp only [maxLen]; omega)
      have hlk2 := (hK17.m.im.below (Below.refl _ _).drew).look_ok (s := cntN n) (by simp only [maxLen]; omega)
      have hct := fun W => counter_any n (by omega) W
      have hsome : (sizeF (runR hist) (cntN n)).isSome = !(decide (getB (runR hist) (cntN n) = none)) := by
        unfold sizeF
        cases getB (runR hist) (cntN n) <;> simp
      rw [hsome] at hlk hlk2
      generalize (sizeF (runR hist) (cntN n)).getD 0 = fz at hlk hlk2
      obtain ⟨sc, hsc⟩ : ∃ sc, cntN n = sc := ⟨_, rfl⟩
      have HSC := Lib.hid hsc
      rw [hsc] at hlk hlk2 hct
      have H17 := Lib.hid (And.intro hc17 (And.intro hK17 hs17))
      have HX17 := Lib.hid (And.intro hW17 hst)
      have HZ := Lib.hid (And.intro hz hh16)
      clear hd16 hc16 hch16 hF2 hK16 hb17 hc17 hs17 hK17 hW17 hst hsc hsome hz hh16 hzc hzc2
      cases hex : decide (getB (runR hist) sc = none) with
      | false =>
        rw [hex] at hlk hlk2
        simp only [Bool.not_false] at hlk hlk2
        go_wp2_with fail
        rw [HX17.out.1, HX17.out.2]
        refine wp_region_held_drew (S := (fun w' => w'.cell? ⟨x8, 0, none⟩ = some (.map (some bm7)) ∧ w'.cell? ⟨x7, 0, none⟩ = some (.int .u64 (n : Int)))) (by kernel_rfl) ?_ (fun hHeld0 => ?_)
        · (try dsimp only)
          exact ⟨k8, k7⟩
        refine wpAnyH_take (i := 0) (oi := ⟨some 60, _, _, _, _, _⟩) (v := ?_) rfl (by kernel_rfl) (by kernel_rfl) (by kernel_rfl) (fun _ _ _ h => h) (Or.inl ⟨by kernel_rfl, ?_⟩) (by assumption) ?_
        rotate_left
        · (intro w hSw; (try dsimp only at hSw); go_simp; (first | done | with_reducible rfl))
        (try simp only [Act.put, List.setIfInBounds_toArray, List.set_cons_zero, List.set_cons_succ])
        refine wpAnyH_take (i := 1) (oi := ⟨some 61, _, _, _, _, _⟩) (v := ?_) rfl (by kernel_rfl) (by kernel_rfl) (by kernel_rfl) (fun _ _ _ h => h) (Or.inl ⟨by kernel_rfl, ?_⟩) (by assumption) ?_
        rotate_left
        · (intro w hSw; (try dsimp only at hSw); go_simp; (first | done | with_reducible rfl))
        (try simp only [Act.put, List.setIfInBounds_toArray, List.set_cons_zero, List.set_cons_succ])
        refine wpAnyH_ready (rs := [2]) (by kernel_rfl) (by simp) ?_
        refine AllReadyH.cons (o := ⟨some 62, _, _, _, _, _⟩) rfl (fun K hK => ?_) AllReadyH.nil
        go_simp
        refine (hct _).mono ?_
        rintro e wz ⟨rfl, hwz⟩
        subst wz
        refine hK.out _ _ ?_ (fun hHeld1 => ?_)
        · (try dsimp only)
          exact ⟨k8, k7⟩
        clear hK K hHeld0
        (try simp only [Act.put, List.setIfInBounds_toArray, List.set_cons_zero, List.set_cons_succ])
        refine wpAnyH_ready (rs := [3]) (by kernel_rfl) (by simp) ?_
        refine AllReadyH.cons (o := ⟨some 63, _, _, _, _, _⟩) rfl (fun K hK => ?_) AllReadyH.nil
        go_simp
        refine hK.out _ _ ?_ (fun hHeld2 => ?_)
        · (try dsimp only)
          exact ⟨k8, k7⟩
        clear hK K hHeld1
        (try simp only [Act.put, List.setIfInBounds_toArray, List.set_cons_zero, List.set_cons_succ])
        refine wpAnyH_take (i := 4) (oi := ⟨some 59, _, _, _, _, _⟩) (v := ?_) rfl (by kernel_rfl) (by kernel_rfl) (by kernel_rfl) (fun _ _ _ h => h) (Or.inl ⟨by kernel_rfl, ?_⟩) (by assumption) ?_
        rotate_left
        · (intro w hSw; (try dsimp only at hSw); go_simp; (first | done | with_reducible rfl))
        (try simp only [Act.put, List.setIfInBounds_toArray, List.set_cons_zero, List.set_cons_succ])
        refine wpAnyH_take (i := 5) (oi := ⟨some 64, _, _, _, _, _⟩) (v := ?_) rfl (by kernel_rfl) (by kernel_rfl) (by kernel_rfl) (fun _ _ _ h => h) (Or.inl ⟨by kernel_rfl, ?_⟩) (by assumption) ?_
        rotate_left
        · (intro w hSw; (try dsimp only at hSw); go_simp; (first | done | with_reducible rfl))
        (try simp only [Act.put, List.setIfInBounds_toArray, List.set_cons_zero, List.set_cons_succ])
        refine wpAnyH_take (i := 6) (oi := ⟨some 65, _, _, _, _, _⟩) (v := ?_) rfl (by kernel_rfl) (by kernel_rfl) (by kernel_rfl) (fun _ _ _ h => h) (Or.inl ⟨by kernel_rfl, ?_⟩) (by assumption) ?_
        rotate_left
        · (intro w hSw; (try dsimp only at hSw); go_simp; (first | done | with_reducible rfl))
        (try simp only [Act.put, List.setIfInBounds_toArray, List.set_cons_zero, List.set_cons_succ])
        refine wpAnyH_take (i := 7) (oi := ⟨some 13, _, _, _, _, _⟩) (v := ?_) rfl (by kernel_rfl) (by kernel_rfl) (by kernel_rfl) (fun _ _ _ h => h) (Or.inl ⟨by kernel_rfl, ?_⟩) (by assumption) ?_
        rotate_left
        · (intro w hSw; (try dsimp only at hSw); go_simp; (first | done | with_reducible rfl))
        (try simp only [Act.put, List.setIfInBounds_toArray, List.set_cons_zero, List.set_cons_succ])
        refine wpAnyH_take (i := 8) (oi := ⟨some 14, _, _, _, _, _⟩) (v := ?_) rfl (by kernel_rfl) (by kernel_rfl) (by kernel_rfl) (fun _ _ _ h => h) (Or.inl ⟨by kernel_rfl, ?_⟩) (by assumption) ?_
        rotate_left
        · (intro w hSw; (try dsimp only at hSw); go_simp; (first | done | with_reducible rfl))
        (try simp only [Act.put, List.setIfInBounds_toArray, List.set_cons_zero, List.set_cons_succ])
        refine wpAnyH_done (by kernel_rfl) ?_ _
        go_wp2_with fail
        have hcB := H17.out.1.later (Below.refl _ _).drew
        have hKB := H17.out.2.1.later (Below.refl _ _).drew
        have hsB := holds_later H17.out.2.2 (Below.refl _ _).drew
        obtain ⟨W18, hW18⟩ : ∃ W18, W17.drew = W18 := ⟨_, rfl⟩
        rw [hW18] at hcB hKB hsB
        rw [hW18]
        obtain ⟨hB, hhB⟩ : ∃ hB, h16 = hB := ⟨_, rfl⟩
        have HIF : Hid (runO size (if getB (runR hist) (cntN n) = none then [.wr (cntN n) []] else []) h16 = hB) := Lib.hid (by
          rw [HSC.out, if_neg (of_decide_eq_false hex)]
          exact hhB)
        have hlB : hB.length ≤ 180000 := by rw [← hhB]; exact hl16
        rw [hhB] at hcB
        have s0 := hsB.cell 0
        have s1 := hsB.cell 1
        simp at s0 s1
        have hnst := (hcB.b st (by simp)).1
        clear hW18 hsB hhB
        refine wp_loop_rounds 3 ?_
        rw [rounds_succ]
        have h3p := step3_any hcB.dk hKB.m.h3 hKB.m.h7 hKB.hb hKB.li hbc (by omega) ⟨(hKB.nb x3 (by simp)).1, (hKB.nb x7 (by simp)).1, (hKB.nb xb (by simp)).1⟩ (by omega) (by omega) hsz
        have H3P := Lib.hid h3p
        have HcB := Lib.hid (And.intro hcB hKB)
        clear h3p hcB hKB
        go_wp2_with fail
        refine H3P.out.mono ?_
        rintro e W19 ⟨rfl, hd19⟩
        obtain ⟨F3, Ro3, hcC, hch19, hF3⟩ := HcB.out.1.call hd19
        have hKC := HcB.out.2.step hch19 hF3
        have hlC := runO_cost size [.wr (cntN (n + 1)) lg] hB
        have hlC2 : costO [.wr (cntN (n + 1)) lg] = lg.length / 512 + 2 := rfl
        obtain ⟨hC, hhC⟩ : ∃ hC, runO size [.wr (cntN (n + 1)) lg] hB = hC := ⟨_, rfl⟩
        rw [hhC] at hcC hlC
        have HHC := Lib.hid hhC
        clear hd19 hhC
        replace s1 := hch19.cell (p := ⟨st, 1, none⟩) hnst s1
        clear hch19 hF3 s0
        go_wp2_with fail
        rw [rounds_succ]
        have h4p := step4_any hcC.dk hKC.m.h3 ⟨rm, l'⟩ hKC.h9 (hKC.tr.chg (Chg.refl _ (fun _ => False)) (fun k hk => ⟨hKC.nr k hk.1 hk.2, fun h => h⟩)) (hKC.fs.chg (Chg.refl _ (fun _ => False)) (fun k hk => ⟨hKC.nr k hk.1 hk.2, fun h => h⟩)) ⟨by show rm.length ≤ 10000000; omega, fun s hs => by have := HB13.out.2.1 s hs; omega⟩ ⟨by show l'.length ≤ 10000000; omega, fun x hx => by have := HB13.out.1 x hx; omega⟩ (by omega) hsz
        have H4P := Lib.hid h4p
        have HcC := Lib.hid hcC
        clear h4p hcC
        go_wp2_with fail
        refine H4P.out.mono ?_
        rintro e W20 ⟨rfl, hd20⟩
        obtain ⟨F4, Ro4, hcD, hch20, hF4⟩ := HcC.out.call hd20
        have hlD := runO_cost size (⟨rm, l'⟩ : Plan).ops hC
        obtain ⟨hD, hhD⟩ : ∃ hD, runO size (⟨rm, l'⟩ : Plan).ops hC = hD := ⟨_, rfl⟩
        rw [hhD] at hcD hlD
        have HHD := Lib.hid hhD
        clear hd20 hhD
        have HEND := Lib.hid (fun u => end_d hcD.dk n (by omega) (by omega) hsz ((n : Int) + 1) rfl u)
        have HCE := Lib.hid hcD
        clear hcD hKC hch20 hF4
        go_wp2_with fail
        rw [rounds_succ]
        go_wp2_with fail
        refine leaves_cons (f := 29) (args := #[.pointer (some ⟨db, 0, none⟩), .int .u64 ((n : Int) + 1)]) (by simp) (by simp [go_sem]) ?_
        refine (HEND.out .returning).mono ?_
        rintro e u' w'' ⟨rfl, rfl, hdE⟩
        obtain ⟨FE, RoE, hcE, _, _⟩ := HCE.out.call hdE
        refine ⟨_, results_tmp rfl _ _ _, 0, rfl, .ok l' HP.out.1 (by rw [H13.out.2.2.2.2.2]; exact hroom.out) HALL.out z (by
          have e1 := growB_le ⟨rm, l'⟩ (fun s => (HK.out.2.2.2 s).1)
          have e2 : (⟨rm, l'⟩ : Plan).log.length = lg.length := by rw [H13.out.2.2.2.2.2]
          rw [show (⟨rm, l'⟩ : Plan).wr = l' from rfl] at e1
          rw [← HZ.out.1, zerosB_length, e2]
          unfold zN
          omega) ?_⟩
        rw [change_runs, HZ.out.2, HIF.out, H13.out.2.2.2.2.2, HHC.out, HHD.out]
        exact hcE.to
      | true =>
        rw [hex] at hlk hlk2
        simp only [Bool.not_true] at hlk hlk2
        go_wp2_with fail
        rw [HX17.out.1, HX17.out.2]
        refine wp_region_held_drew (S := (fun w' => w'.cell? ⟨x8, 0, none⟩ = some (.map (some bm7)) ∧ w'.cell? ⟨x7, 0, none⟩ = some (.int .u64 (n : Int)))) (by kernel_rfl) ?_ (fun hHeld0 => ?_)
        · (try dsimp only)
          exact ⟨k8, k7⟩
        refine wpAnyH_take (i := 0) (oi := ⟨some 60, _, _, _, _, _⟩) (v := ?_) rfl (by kernel_rfl) (by kernel_rfl) (by kernel_rfl) (fun _ _ _ h => h) (Or.inl ⟨by kernel_rfl, ?_⟩) (by assumption) ?_
        rotate_left
        · (intro w hSw; (try dsimp only at hSw); go_simp; (first | done | with_reducible rfl))
        (try simp only [Act.put, List.setIfInBounds_toArray, List.set_cons_zero, List.set_cons_succ])
        refine wpAnyH_take (i := 1) (oi := ⟨some 61, _, _, _, _, _⟩) (v := ?_) rfl (by kernel_rfl) (by kernel_rfl) (by kernel_rfl) (fun _ _ _ h => h) (Or.inl ⟨by kernel_rfl, ?_⟩) (by assumption) ?_
        rotate_left
        · (intro w hSw; (try dsimp only at hSw); go_simp; (first | done | with_reducible rfl))
        (try simp only [Act.put, List.setIfInBounds_toArray, List.set_cons_zero, List.set_cons_succ])
        refine wpAnyH_ready (rs := [2]) (by kernel_rfl) (by simp) ?_
        refine AllReadyH.cons (o := ⟨some 62, _, _, _, _, _⟩) rfl (fun K hK => ?_) AllReadyH.nil
        go_simp
        refine (hct _).mono ?_
        rintro e wz ⟨rfl, hwz⟩
        subst wz
        refine hK.out _ _ ?_ (fun hHeld1 => ?_)
        · (try dsimp only)
          exact ⟨k8, k7⟩
        clear hK K hHeld0
        (try simp only [Act.put, List.setIfInBounds_toArray, List.set_cons_zero, List.set_cons_succ])
        refine wpAnyH_ready (rs := [3]) (by kernel_rfl) (by simp) ?_
        refine AllReadyH.cons (o := ⟨some 63, _, _, _, _, _⟩) rfl (fun K hK => ?_) AllReadyH.nil
        go_simp
        refine hK.out _ _ ?_ (fun hHeld2 => ?_)
        · (try dsimp only)
          exact ⟨k8, k7⟩
        clear hK K hHeld1
        (try simp only [Act.put, List.setIfInBounds_toArray, List.set_cons_zero, List.set_cons_succ])
        refine wpAnyH_take (i := 4) (oi := ⟨some 59, _, _, _, _, _⟩) (v := ?_) rfl (by kernel_rfl) (by kernel_rfl) (by kernel_rfl) (fun _ _ _ h => h) (Or.inl ⟨by kernel_rfl, ?_⟩) (by assumption) ?_
        rotate_left
        · (intro w hSw; (try dsimp only at hSw); go_simp; (first | done | with_reducible rfl))
        (try simp only [Act.put, List.setIfInBounds_toArray, List.set_cons_zero, List.set_cons_succ])
        refine wpAnyH_take (i := 5) (oi := ⟨some 64, _, _, _, _, _⟩) (v := ?_) rfl (by kernel_rfl) (by kernel_rfl) (by kernel_rfl) (fun _ _ _ h => h) (Or.inl ⟨by kernel_rfl, ?_⟩) (by assumption) ?_
        rotate_left
        · (intro w hSw; (try dsimp only at hSw); go_simp; (first | done | with_reducible rfl))
        (try simp only [Act.put, List.setIfInBounds_toArray, List.set_cons_zero, List.set_cons_succ])
        refine wpAnyH_take (i := 6) (oi := ⟨some 65, _, _, _, _, _⟩) (v := ?_) rfl (by kernel_rfl) (by kernel_rfl) (by kernel_rfl) (fun _ _ _ h => h) (Or.inl ⟨by kernel_rfl, ?_⟩) (by assumption) ?_
        rotate_left
        · (intro w hSw; (try dsimp only at hSw); go_simp; (first | done | with_reducible rfl))
        (try simp only [Act.put, List.setIfInBounds_toArray, List.set_cons_zero, List.set_cons_succ])
        refine wpAnyH_take (i := 7) (oi := ⟨some 13, _, _, _, _, _⟩) (v := ?_) rfl (by kernel_rfl) (by kernel_rfl) (by kernel_rfl) (fun _ _ _ h => h) (Or.inl ⟨by kernel_rfl, ?_⟩) (by assumption) ?_
        rotate_left
        · (intro w hSw; (try dsimp only at hSw); go_simp; (first | done | with_reducible rfl))
        (try simp only [Act.put, List.setIfInBounds_toArray, List.set_cons_zero, List.set_cons_succ])
        refine wpAnyH_take (i := 8) (oi := ⟨some 14, _, _, _, _, _⟩) (v := ?_) rfl (by kernel_rfl) (by kernel_rfl) (by kernel_rfl) (fun _ _ _ h => h) (Or.inl ⟨by kernel_rfl, ?_⟩) (by assumption) ?_
        rotate_left
        · (intro w hSw; (try dsimp only at hSw); go_simp; (first | done | with_reducible rfl))
        (try simp only [Act.put, List.setIfInBounds_toArray, List.set_cons_zero, List.set_cons_succ])
        refine wpAnyH_done (by kernel_rfl) ?_ _
        go_wp2_with fail
        have hbA := ((Below.refl W17.heap.size W17).alloc (Nat.le_refl _) (.cells #[.func (.func 36) #[] #[.pointer (some ⟨x3, 0, none⟩), .pointer (some ⟨x7, 0, none⟩)]] 1)).drew
        have hnA := (Holds.new W17 1 #[.func (.func 36) #[] #[.pointer (some ⟨x3, 0, none⟩), .pointer (some ⟨x7, 0, none⟩)]]).drew
        have hcA1 := H17.out.1.later hbA
        have hKA1 := H17.out.2.1.later hbA
        have hsA1 := holds_later H17.out.2.2 hbA
        obtain ⟨W8b, hW8b⟩ : ∃ W8b, (W17.alloc (.cells #[.func (.func 36) #[] #[.pointer (some ⟨x3, 0, none⟩), .pointer (some ⟨x7, 0, none⟩)]] 1)).drew = W8b := ⟨_, rfl⟩
        rw [hW8b] at hcA1 hKA1 hsA1 hnA
        obtain ⟨dd, hdd⟩ : ∃ dd, W17.heap.size = dd := ⟨_, rfl⟩
        rw [hdd] at hnA
        have s0 := hsA1.cell 0
        have s1 := hsA1.cell 1
        have d0 := hnA.cell 0
        simp at s0 s1 d0
        have hins := insert_any (b := st) (d := dd) rfl rfl rfl s0 s1 d0 hsA1.lt hnA.lt
        have HINS := Lib.hid hins
        have HA1 := Lib.hid (And.intro hcA1 hKA1)
        clear hbA hnA hcA1 hKA1 hsA1 hins s0 s1 d0
        (try rw [hW8b])
        (try rw [hdd])
        clear hW8b hdd
        refine HINS.out.mono ?_
        rintro e W9b ⟨gs, cap, rfl, hcap, hgl, s0, s1, s2, hb19⟩
        have hgs := World.block_lt_of_cell? W9b _ s0
        have hcA := (HA1.out.1.later hb19).more (x := gs) (fun e => by have := HA1.out.1.dk.ltF gs e; omega) hgs
        have hKA := HA1.out.2.later hb19
        clear hb19 HINS hgs hgl
        have h5p := step5_any hcA.dk hKA.m.h3 hKA.m.h7 ⟨(hKA.nb x3 (by simp)).1, (hKA.nb x7 (by simp)).1⟩ (by omega) (by omega) hsz
        have H5P := Lib.hid h5p
        have hng := (hcA.b gs (by simp)).1
        have HcA := Lib.hid (And.intro hcA hKA)
        clear h5p hcA hKA
        go_wp2_with fail
        refine wp_loop_rounds 4 ?_
        rw [rounds_succ]
        go_wp2_with fail
        refine H5P.out.mono ?_
        rintro e W0b ⟨rfl, hd0b⟩
        obtain ⟨F0b, Ro0b, hcB, hch0b, hF0b⟩ := HcA.out.1.call hd0b
        have hKB := HcA.out.2.step hch0b hF0b
        have hlB0 := runO_cost size [.wr (cntN n) []] h16
        have hlB2 : costO [.wr (cntN n) []] = 2 := rfl
        obtain ⟨hB, hhB⟩ : ∃ hB, runO size [.wr (cntN n) []] h16 = hB := ⟨_, rfl⟩
        have HIF : Hid (runO size (if getB (runR hist) (cntN n) = none then [.wr (cntN n) []] else []) h16 = hB) := Lib.hid (by
          rw [HSC.out, if_pos (of_decide_eq_true hex)]
          rw [HSC.out] at hhB
          exact hhB)
        rw [hhB] at hlB0 hcB
        have hlB : hB.length ≤ 180100 := by omega
        replace s1 := hch0b.cell (p := ⟨gs, 1, none⟩) hng s1
        replace s2 := hch0b.cell (p := ⟨gs, 2, none⟩) hng s2
        have hng2 := (hcB.b gs (by simp)).1
        clear hd0b hhB hch0b hF0b hng s0 hlB0 hlB2
        go_wp2_with fail
        rw [rounds_succ]
        have h3p := step3_any hcB.dk hKB.m.h3 hKB.m.h7 hKB.hb hKB.li hbc (by omega) ⟨(hKB.nb x3 (by simp)).1, (hKB.nb x7 (by simp)).1, (hKB.nb xb (by simp)).1⟩ (by omega) (by omega) hsz
        have H3P := Lib.hid h3p
        have HcB := Lib.hid (And.intro hcB hKB)
        clear h3p hcB hKB
        go_wp2_with fail
        refine H3P.out.mono ?_
        rintro e W19 ⟨rfl, hd19⟩
        obtain ⟨F3, Ro3, hcC, hch19, hF3⟩ := HcB.out.1.call hd19
        have hKC := HcB.out.2.step hch19 hF3
        have hlC := runO_cost size [.wr (cntN (n + 1)) lg] hB
        have hlC2 : costO [.wr (cntN (n + 1)) lg] = lg.length / 512 + 2 := rfl
        obtain ⟨hC, hhC⟩ : ∃ hC, runO size [.wr (cntN (n + 1)) lg] hB = hC := ⟨_, rfl⟩
        rw [hhC] at hcC hlC
        have HHC := Lib.hid hhC
        clear hd19 hhC
        replace s2 := hch19.cell (p := ⟨gs, 2, none⟩) hng2 s2
        clear hch19 hF3 s1
        go_wp2_with fail
        rw [rounds_succ]
        have h4p := step4_any hcC.dk hKC.m.h3 ⟨rm, l'⟩ hKC.h9 (hKC.tr.chg (Chg.refl _ (fun _ => False)) (fun k hk => ⟨hKC.nr k hk.1 hk.2, fun h => h⟩)) (hKC.fs.chg (Chg.refl _ (fun _ => False)) (fun k hk => ⟨hKC.nr k hk.1 hk.2, fun h => h⟩)) ⟨by show rm.length ≤ 10000000; omega, fun s hs => by have := HB13.out.2.1 s hs; omega⟩ ⟨by show l'.length ≤ 10000000; omega, fun x hx => by have := HB13.out.1 x hx; omega⟩ (by omega) hsz
        have H4P := Lib.hid h4p
        have HcC := Lib.hid hcC
        clear h4p hcC
        go_wp2_with fail
        refine H4P.out.mono ?_
        rintro e W20 ⟨rfl, hd20⟩
        obtain ⟨F4, Ro4, hcD, hch20, hF4⟩ := HcC.out.call hd20
        have hlD := runO_cost size (⟨rm, l'⟩ : Plan).ops hC
        obtain ⟨hD, hhD⟩ : ∃ hD, runO size (⟨rm, l'⟩ : Plan).ops hC = hD := ⟨_, rfl⟩
        rw [hhD] at hcD hlD
        have HHD := Lib.hid hhD
        clear hd20 hhD
        have HEND := Lib.hid (fun u => end_d hcD.dk n (by omega) (by omega) hsz ((n : Int) + 1) rfl u)
        have HCE := Lib.hid hcD
        clear hcD hKC hch20 hF4
        go_wp2_with fail
        rw [rounds_succ]
        go_wp2_with fail
        refine leaves_cons (f := 29) (args := #[.pointer (some ⟨db, 0, none⟩), .int .u64 ((n : Int) + 1)]) (by simp) (by simp [go_sem]) ?_
        refine (HEND.out .returning).mono ?_
        rintro e u' w'' ⟨rfl, rfl, hdE⟩
        obtain ⟨FE, RoE, hcE, _, _⟩ := HCE.out.call hdE
        refine ⟨_, results_tmp rfl _ _ _, 0, rfl, .ok l' HP.out.1 (by rw [H13.out.2.2.2.2.2]; exact hroom.out) HALL.out z (by
          have e1 := growB_le ⟨rm, l'⟩ (fun s => (HK.out.2.2.2 s).1)
          have e2 : (⟨rm, l'⟩ : Plan).log.length = lg.length := by rw [H13.out.2.2.2.2.2]
          rw [show (⟨rm, l'⟩ : Plan).wr = l' from rfl] at e1
          rw [← HZ.out.1, zerosB_length, e2]
          unfold zN
          omega) ?_⟩
        rw [change_runs, HZ.out.2, HIF.out, H13.out.2.2.2.2.2, HHC.out, HHD.out]
        exact hcE.to
end Go.Proofs.YtmldpehkacemfaaGreatDoor
namespace Go.Proofs.YtmldpehkacemfaaGreatDoor
open Go.RowKit Go.Bd
def filesB (fs : Fs) : List (ByteArray × Bs) := (filesM fs).map fun p => (⟨⟨p.1⟩⟩, p.2)
def fileF (fs : Fs) (x : List UInt8) : ByteArray × Bs := (⟨⟨x⟩⟩, (getB fs ⟨⟨x⟩⟩).getD [])
theorem filesB_eq (fs : Fs) : filesB fs = ((namesB fs).filter ownL).map (fileF fs) := by
  unfold filesB filesM fileF
  rw [List.map_map]
  rfl
set_option maxRecDepth 100000 in
theorem bytes_conv {w : World} {B n : Nat} {A : Option Addr} {c : Nat} {b : Bs} (h : w.ownsRow B 5 1 (.slice A n c) n (u8L b)) (hn : n = b.length) : (convert 69 9 (.slice A n c)).run Tryz.prog w = .ok (.string ⟨b.toArray⟩) w := by
  obtain ⟨A', c', e, _, h1⟩ := own_bytes h hn
  injection e with e1 e2 e3
  subst e1 e2 e3
  rcases h1 with ⟨rfl, rfl, rfl⟩ | ⟨blk, off, rfl, _, h2⟩
  · exact run_convert_bytes_nil (P := Tryz.prog) w 69 5 Tryz.underlying69 Tryz.underlying5 0 0 9 Tryz.underlying9
  · exact run_convert_bytes_back (P := Tryz.prog) w 69 9 5 ⟨blk, off, none⟩ _ b Tryz.underlying69 Tryz.underlying5 Tryz.underlying9 (fun j hj => by
      rw [Addr.add_lit]
      exact h2 j _ (List.getElem?_eq_getElem hj))
set_option maxRecDepth 100000 in
set_option maxHeartbeats 4000000 in
theorem files_any {w : World} {F Ro : Nat → Prop} {db size : Nat} {hist : List Raw} (h : Dk w F Ro db size hist) (hn : ∀ s, getB (runR hist) s ≠ none → nameB s = true) (hh : hist.length ≤ 900000) :
    Calls Tryz.prog 10 #[.pointer (some ⟨db, 0, none⟩)] w fun e w' => ∃ v, e = .returned (.tuple #[v, .int .i64 0]) ∧ w'.ownsRow w.heap.size 50 2 v (filesB (runR hist)).length (rowFl (filesB (runR hist))) ∧ Below w.heap.size w w' := by
  have ht := there_j h hh
  have hu := uniq_runR hist
  have hll : (namesB (runR hist)).length ≤ 900000 := by have := h.len_le; omega
  have hul := h.used_le
  have hnl := names_name h
  have hnm := fun (W : World) (hb : Below w.heap.size w W) => names_dk (h.below hb) hh
  have HW := Lib.hid h
  have HNM := Lib.hid hnm
  have HM := Lib.hid (And.intro (fun x => names_mem hu x) hnl)
  have HN := Lib.hid hn
  have HUL := Lib.hid hul
  rw [filesB_eq]
  obtain ⟨L, hL⟩ : ∃ L, namesB (runR hist) = L := ⟨_, rfl⟩
  rw [hL] at hll HM HNM ⊢
  obtain ⟨B, hB⟩ : ∃ B, w.heap.size = B := ⟨_, rfl⟩
  have HBB := Lib.hid hB
  rw [hB]
  clear h hu hn hL hul hnl hnm hB
  go_enter Tryz.func10, Tryz.ntmps10
  go_wp2_with fail
  refine ht.mono ?_
  clear ht
  rintro e w1 ⟨rfl, hb1⟩
  have HNM1 := Lib.hid (HNM.out w1 hb1)
  have HB1 := Lib.hid hb1
  clear hb1
  go_wp2_with fail
  refine HNM1.out.mono ?_
  rintro e w2 ⟨v, rfl, ho2, hb2⟩
  obtain ⟨A, c, rfl, hc, hcells⟩ := own_at ho2
  have HC := Lib.hid hcells
  have hB12 := HB1.out.trans (hb2.mono HB1.out.size)
  rw [HBB.out] at hB12
  have HB2 := Lib.hid hB12
  have hz2 := hB12.size
  have hzw := HBB.out
  clear ho2 hcells hb2 hB12
  obtain ⟨nl, hnl⟩ : ∃ nl, L.length = nl := ⟨_, rfl⟩
  rw [hnl] at hll hc ⊢
  have HNL := Lib.hid hnl
  clear hnl
  go_wp2_with fail
  go_loopg [4, 15] nl (fun q fv iv wr => ∃ (k : Nat) (acc : List (ByteArray × Bs)), k + q = nl ∧ iv = .int .i64 (k : Int) ∧ acc.length ≤ k ∧ Hid (acc = ((L.take k).filter ownL).map (fileF (runR hist)) ∧ wr.ownsRow w2.heap.size 50 2 fv acc.length (rowFl acc) ∧ Below w2.heap.size w2 wr))
  case atStart => exact ⟨0, [], by omega, rfl, by simp, Lib.hid ⟨by simp, World.ownsRow_nil _ _ _ _, Below.refl _ _⟩⟩
  case round =>
    obtain ⟨k, acc, hk, rfl, hak, HR⟩ := hrel
    obtain ⟨fA, fc, rfl, _⟩ := own_slice2 HR.out.2.1
    by_cases hlt : k < nl
    · obtain ⟨x, hx⟩ : ∃ x, L[k]? = some x := ⟨_, List.getElem?_eq_getElem (by rw [HNL.out]; exact hlt)⟩
      obtain ⟨g, rfl, hgb, hgl, q0⟩ := HC.out k (Go.Proofs.encStr x) (by rw [List.getElem?_map, hx]; rfl)
      have q1 := (HR.out.2.2.cell (p := ⟨g, k, none⟩) hgl).trans q0
      obtain ⟨sx, hsx⟩ : ∃ sx : ByteArray, (⟨⟨x⟩⟩ : ByteArray) = sx := ⟨_, rfl⟩
      have hsl : sx.data.toList = x := by rw [← hsx]
      have hq : Go.Proofs.encStr x = .string sx := by rw [← hsx]; first | done | rfl
      rw [hq] at q1
      have hin : getB (runR hist) sx ≠ none := by rw [← hsx]; exact (HM.out.1 x).1 (List.mem_of_getElem? hx)
      obtain ⟨b, hb⟩ : ∃ b, getB (runR hist) sx = some b := by
        cases hg : getB (runR hist) sx with
        | none => exact absurd hg hin
        | some b => exact ⟨b, rfl⟩
      have hss : sx.size ≤ 80 := HM.out.2 _ (getB_mem hb)
      have hown := own_any sx wr
      have hoe : ownB sx = ownL x := by rw [← hsx]; rfl
      have hfe : fileF (runR hist) x = (sx, b) := by unfold fileF; rw [hsx, hb]; rfl
      have hnx := take_snoc hx
      have HX := Lib.hid (And.intro hnx hfe)
      rw [hoe] at hown
      clear q0 hsl hq hsx hnx hfe hoe hx
      cases ho : ownL x with
      | false =>
        rw [ho] at hown
        have hac : Hid (acc = ((L.take (k + 1)).filter ownL).map (fileF (runR hist))) := Lib.hid (by
          rw [HX.out.1, List.filter_append, List.map_append, ← HR.out.1]
          simp [ho])
        clear hin hb ho
        go_wp2_with (first
          | (go_at_call 38; refine hown.mono ?_; rintro e w3 ⟨rfl, rfl⟩)
          | fail)
        go_roundg (gk - 1)
        case measure => omega
        case rel => exact ⟨k + 1, acc, by omega, by go_num, by omega, Lib.hid ⟨hac.out, HR.out.2⟩⟩
      | true =>
        rw [ho] at hown
        have hDw : Dk wr _ _ db size hist := (HW.out.below (HBB.out ▸ HB2.out)).chg (Chg.below HR.out.2.2 (fun _ => False)) (fun _ _ h => h) (fun _ _ h => h)
        have hrd := read_dk hDw sx (by omega) (by omega)
        rw [readB_name (HN.out sx hin), hb] at hrd
        simp only [Option.getD_some] at hrd
        generalize (readB (runR hist) sx).2 = rc at hrd
        have hbl : b.length ≤ 500000000 := by
          have e1 := getB_used (fs := runR hist) (s := sx)
          rw [hb] at e1
          have := HUL.out
          simp only [Option.getD_some] at e1
          omega
        have hac : Hid (acc ++ [(sx, b)] = ((L.take (k + 1)).filter ownL).map (fileF (runR hist))) := Lib.hid (by
          rw [HX.out.1, List.filter_append, List.map_append, ← HR.out.1]
          simp [ho, HX.out.2])
        have HRD := Lib.hid hrd
        clear hin hb ho hDw hrd
        go_wp2_with (first
          | (go_at_call 38; refine hown.mono ?_; rintro e w3 ⟨rfl, rfl⟩)
          | fail)
        refine HRD.out.mono ?_
        rintro e w5 ⟨v5, rfl, ho5, hb5⟩
        obtain ⟨A5, c5, rfl, _⟩ := own_slice2 ho5
        have hcv := bytes_conv ho5 rfl
        have hzr := HR.out.2.2.size
        have ho6 := (Chg.below hb5 (fun _ => False)).owns HR.out.2.1 (fun _ _ h => h)
        have hb6 := HR.out.2.2.trans (hb5.mono hzr)
        have hz5 := hb5.size
        have H6 := Lib.hid (And.intro ho6 hb6)
        clear ho5 hb5 hb6 ho6
        go_wp2_with (at_builtin; refine wpList_app_el _ rfl _ _ 39 rfl w2.heap.size 50 (.agg #[.string ⟨#[]⟩, .string ⟨#[]⟩]) 2 32 under_files file_info rfl (by omega) _ acc.length _ rfl (H6.out.1.alloc _) _ 1 [.string sx, .string ⟨b.toArray⟩] rfl rfl (Holds.new _ _ _) (by simp [Value.oneCell']) (by omega) (by omega) (by simp; omega) ?_)
        intro v7 w7 ho7 hg7 hn7
        have hf7 : Hid (w7.ownsRow w2.heap.size 50 2 v7 (acc ++ [(sx, b)]).length (rowFl (acc ++ [(sx, b)])) ∧ Below w2.heap.size w2 w7) := Lib.hid (by
          refine ⟨?_, (H6.out.2.alloc (by omega) _).grown hg7 (by simp; omega) (fun q hq => (H6.out.1.lt q hq).1)⟩
          rw [List.length_append, List.length_singleton, rowFl_snoc]
          exact ho7)
        obtain ⟨A7, c7, rfl, _⟩ := own_slice2 ho7
        clear ho7 hg7 hn7
        go_wp2_with fail
        go_roundg (gk - 1)
        case measure => omega
        case rel => exact ⟨k + 1, acc ++ [(sx, b)], by omega, by go_num, by simp; omega, Lib.hid ⟨hac.out, hf7.out⟩⟩
    · obtain rfl : k = nl := by omega
      go_wp2_with fail
      go_ret2
      have e := HR.out.1
      rw [List.take_of_length_le (by rw [HNL.out]; exact Nat.le_refl _)] at e
      rw [← e]
      exact ⟨_, rfl, own_monoN HR.out.2.1 (by omega), HB2.out.trans (HR.out.2.2.mono (by omega))⟩
end Go.Proofs.YtmldpehkacemfaaGreatDoor
namespace Go.Proofs.YtmldpehkacemfaaGreatDoor
open Go.RowKit Go.Bd
set_option maxRecDepth 100000 in
set_option maxHeartbeats 4000000 in
theorem same_files {w : World} {S1 S2 : Nat → Prop} {v u : Value} {l : List (ByteArray × Bs)} (h1 : FilesS w S1 v l) (h2 : FilesS w S2 u l) (hl : l.length ≤ 1000000) :
    Calls Tryz.prog 12 #[v, u] w fun e w' => e = .returned (.bool true) ∧ Below w.heap.size w w' := by
  obtain ⟨A, c, rfl, hc, k1⟩ := h1
  obtain ⟨A2, c2, rfl, hc2, k2⟩ := h2
  have H1 := Lib.hid k1
  have H2 := Lib.hid k2
  clear k1 k2
  obtain ⟨n, hn⟩ : ∃ n, l.length = n := ⟨_, rfl⟩
  rw [hn] at hl hc hc2 ⊢
  have HN := Lib.hid hn
  clear hn
  go_enter Tryz.func12, Tryz.ntmps12
  go_wp2_with fail
  go_loopg [5] n (fun q iv wr => ∃ k : Nat, k + q = n ∧ iv = .int .i64 (k : Int) ∧ Hid (Below w.heap.size w wr))
  case atStart => exact ⟨0, by omega, rfl, Lib.hid (Below.refl _ _)⟩
  case round =>
    obtain ⟨k, hk, rfl, HR⟩ := hrel
    by_cases hlt : k < n
    · obtain ⟨f, hf⟩ : ∃ f, l[k]? = some f := ⟨_, List.getElem?_eq_getElem (by rw [HN.out]; exact hlt)⟩
      obtain ⟨b, off, rfl, _, x0, x1⟩ := H1.out k f hf
      obtain ⟨b2, off2, rfl, _, y0, y1⟩ := H2.out k f hf
      have e : ∀ {p : Addr} {z : Value}, w.cell? p = some z → wr.cell? p = some z := fun {p z} h => (HR.out.cell (World.block_lt_of_cell? w _ h)).trans h
      replace x0 := e x0
      replace x1 := e x1
      replace y0 := e y0
      replace y1 := e y1
      obtain ⟨gx, hgx⟩ : ∃ gx : ByteArray, ⟨f.2.toArray⟩ = gx := ⟨_, rfl⟩
      obtain ⟨nx, hnx⟩ : ∃ nx, f.1 = nx := ⟨_, rfl⟩
      rw [hgx] at x1 y1
      rw [hnx] at x0 y0
      have HD := Lib.hid (HR.out.drew)
      clear e hf hgx hnx
      go_wp2_with fail
      go_region
      all_goals (
        go_wp2_with fail
        go_roundg (gk - 1)
        case measure => omega
        case rel => exact ⟨k + 1, by omega, by go_num, by first | exact HR | exact HD⟩)
    · obtain rfl : k = n := by omega
      go_wp2_with fail
      go_ret
      exact ⟨rfl, HR.out⟩
end Go.Proofs.YtmldpehkacemfaaGreatDoor
namespace Go.Proofs.YtmldpehkacemfaaGreatDoor
open Go.RowKit Go.Bd
def filesZ (l : List (ByteArray × Bs)) : Nat := l.length + (l.map fun f => f.1.size + f.2.length).sum
def textsZ (l : List ByteArray) : Nat := l.length + (l.map (·.size)).sum
structure ActJ where
  wr : List (ByteArray × Bs)
  rm : List ByteArray
def actsZ (l : List ActJ) : Nat := (l.map fun a => 1 + filesZ a.wr + textsZ a.rm).sum
def greatJ (l : List ActJ) : Bool := decide (40 < l.length) || decide (40000 < actsZ l)
theorem filesZ_take {l : List (ByteArray × Bs)} {k : Nat} {f : ByteArray × Bs} (h : l[k]? = some f) : l.length + ((l.take (k + 1)).map fun f => f.1.size + f.2.length).sum = l.length + ((l.take k).map fun f => f.1.size + f.2.length).sum + (f.1.size + f.2.length) := by
  rw [take_snoc h, List.map_append, List.sum_append]
  simp
  omega
theorem take_sum_le (l : List Nat) (k : Nat) : (l.take k).sum ≤ l.sum := by
  conv => rhs; rw [← List.take_append_drop k l, List.sum_append]
  omega
set_option maxRecDepth 100000 in
set_option maxHeartbeats 4000000 in
theorem filesSize_any {w : World} {S : Nat → Prop} {v : Value} {l : List (ByteArray × Bs)} (h : FilesS w S v l) (hl : filesZ l ≤ 1048576) :
    Calls Tryz.prog 13 #[v] w fun e w' => e = .returned (.int .i64 (filesZ l : Int)) ∧ Below w.heap.size w w' := by
  obtain ⟨A, c, rfl, hc, k1⟩ := h
  have H1 := Lib.hid k1
  obtain ⟨m, hm⟩ : ∃ m, l.length = m := ⟨_, rfl⟩
  have HL : Hid (∀ k, k ≤ m → m + ((l.take k).map fun f => f.1.size + f.2.length).sum ≤ 1048576) := Lib.hid (fun k _ => by
    have := take_sum_le (l.map fun f => f.1.size + f.2.length) k
    unfold filesZ at hl
    rw [← List.map_take] at this
    omega)
  have hml : m ≤ 1048576 := by unfold filesZ at hl; omega
  have HZ : Hid (filesZ l = m + (l.map fun f => f.1.size + f.2.length).sum) := Lib.hid (by unfold filesZ; omega)
  rw [hm] at hc ⊢
  have HN := Lib.hid hm
  clear hm k1 hl
  go_enter Tryz.func13, Tryz.ntmps13
  go_wp2_with fail
  go_loopg [3, 4] m (fun q nv iv wr => ∃ k n : Nat, k + q = m ∧ iv = .int .i64 (k : Int) ∧ nv = .int .i64 (n : Int) ∧ n ≤ 1048576 ∧ Hid (n = m + ((l.take k).map fun f => f.1.size + f.2.length).sum ∧ Below w.heap.size w wr))
  case atStart => exact ⟨0, m, by omega, rfl, rfl, hml, Lib.hid ⟨by simp, Below.refl _ _⟩⟩
  case round =>
    obtain ⟨k, n, hk, rfl, rfl, hn, HR⟩ := hrel
    by_cases hlt : k < m
    · obtain ⟨f, hf⟩ : ∃ f, l[k]? = some f := ⟨_, List.getElem?_eq_getElem (by rw [HN.out]; exact hlt)⟩
      obtain ⟨b, off, rfl, _, x0, x1⟩ := H1.out k f hf
      have e : ∀ {p : Addr} {z : Value}, w.cell? p = some z → wr.cell? p = some z := fun {p z} h => (HR.out.2.cell (World.block_lt_of_cell? w _ h)).trans h
      replace x0 := e x0
      replace x1 := e x1
      have hnx := filesZ_take hf
      rw [HN.out, ← HR.out.1] at hnx
      have hle := HL.out (k + 1) (by omega)
      rw [hnx] at hle
      obtain ⟨gx, hgx⟩ : ∃ gx : ByteArray, ⟨f.2.toArray⟩ = gx := ⟨_, rfl⟩
      have hgs : gx.size = f.2.length := by rw [← hgx, size_mk]
      obtain ⟨nx, hnm⟩ : ∃ nx, f.1 = nx := ⟨_, rfl⟩
      rw [hgx] at x1
      rw [hnm] at x0
      rw [hnm, ← hgs] at hnx hle
      have HX := Lib.hid hnx
      have HD := Lib.hid (HR.out.2.drew)
      clear e hf hgx hgs hnm hnx
      go_wp2_with fail
      go_region
      all_goals (
        go_wp2_with fail
        go_roundg (gk - 1)
        case measure => omega
        case rel => exact ⟨k + 1, n + (nx.size + gx.size), by omega, by go_num, by go_num, hle, Lib.hid ⟨HX.out.symm, by first | exact HD.out | exact HR.out.2⟩⟩)
    · obtain rfl : k = m := by omega
      have hfin : Hid (n = filesZ l) := Lib.hid (by
        have := HR.out.1
        rw [List.take_of_length_le (by rw [HN.out]; exact Nat.le_refl _)] at this
        rw [HZ.out, this])
      go_wp2_with fail
      go_ret
      exact ⟨by rw [← hfin.out]; (first | done | rfl), HR.out.2⟩
set_option maxRecDepth 100000 in
set_option maxHeartbeats 4000000 in
theorem textsSize_any {w : World} {S : Nat → Prop} {v : Value} {l : List ByteArray} (h : TextsS w S v l) (hl : textsZ l ≤ 1048576) :
    Calls Tryz.prog 14 #[v] w fun e w' => e = .returned (.int .i64 (textsZ l : Int)) ∧ Below w.heap.size w w' := by
  obtain ⟨A, c, rfl, hc, k1⟩ := h
  have H1 := Lib.hid k1
  obtain ⟨m, hm⟩ : ∃ m, l.length = m := ⟨_, rfl⟩
  have HL : Hid (∀ k, k ≤ m → m + ((l.take k).map (·.size)).sum ≤ 1048576) := Lib.hid (fun k _ => by
    have := take_sum_le (l.map (·.size)) k
    unfold textsZ at hl
    rw [← List.map_take] at this
    omega)
  have hml : m ≤ 1048576 := by unfold textsZ at hl; omega
  have HZ : Hid (textsZ l = m + (l.map (·.size)).sum) := Lib.hid (by unfold textsZ; omega)
  rw [hm] at hc ⊢
  have HN := Lib.hid hm
  clear hm k1 hl
  go_enter Tryz.func14, Tryz.ntmps14
  go_wp2_with fail
  go_loopg [3, 4] m (fun q nv iv wr => ∃ k n : Nat, k + q = m ∧ iv = .int .i64 (k : Int) ∧ nv = .int .i64 (n : Int) ∧ n ≤ 1048576 ∧ wr = w ∧ Hid (n = m + ((l.take k).map (·.size)).sum))
  case atStart => exact ⟨0, m, by omega, rfl, rfl, hml, rfl, Lib.hid (by simp)⟩
  case round =>
    obtain ⟨k, n, hk, rfl, rfl, hn, rfl, HR⟩ := hrel
    by_cases hlt : k < m
    · obtain ⟨s, hs⟩ : ∃ s, l[k]? = some s := ⟨_, List.getElem?_eq_getElem (by rw [HN.out]; exact hlt)⟩
      obtain ⟨b, off, rfl, _, x0⟩ := H1.out k s hs
      have hle := HL.out (k + 1) (by omega)
      have hnx : m + ((l.take (k + 1)).map (·.size)).sum = n + s.size := by
        rw [take_snoc hs, List.map_append, List.sum_append, HR.out]
        simp
        omega
      rw [hnx] at hle
      have HX := Lib.hid hnx
      clear hs hnx
      go_wp2_with fail
      go_roundg (gk - 1)
      case measure => omega
      case rel => exact ⟨k + 1, n + s.size, by omega, by go_num, by go_num, hle, rfl, Lib.hid HX.out.symm⟩
    · obtain rfl : k = m := by omega
      have hfin : Hid (n = textsZ l) := Lib.hid (by
        have := HR.out
        rw [List.take_of_length_le (by rw [HN.out]; exact Nat.le_refl _)] at this
        rw [HZ.out, this])
      go_wp2_with fail
      go_ret
      exact ⟨by rw [← hfin.out]; (first | done | rfl), Below.refl _ _⟩
def ActsS (w : World) (S : Nat → Prop) (v : Value) (l : List ActJ) : Prop := ∃ A c, v = .slice A l.length c ∧ l.length ≤ c ∧ ∀ (j : Nat) a, l[j]? = some a → ∃ b off wv rv, A = some ⟨b, off, none⟩ ∧ S b ∧ w.cell? ⟨b, off + j * 2, none⟩ = some wv ∧ w.cell? ⟨b, off + j * 2 + 1, none⟩ = some rv ∧ FilesS w S wv a.wr ∧ TextsS w S rv a.rm
set_option maxRecDepth 100000 in
set_option maxHeartbeats 4000000 in
theorem great_any {w : World} {S : Nat → Prop} {v : Value} {l : List ActJ} (h : ActsS w S v l) (hl : l.length ≤ 1000000) (hz : actsZ l ≤ 100000000) (hea : ∀ a ∈ l, filesZ a.wr ≤ 1048576 ∧ textsZ a.rm ≤ 1048576) (hS : ∀ k, S k → k < w.heap.size) :
    Calls Tryz.prog 4 #[v] w fun e w' => e = .returned (.bool (greatJ l)) ∧ Below w.heap.size w w' := by
  obtain ⟨A, c, rfl, hc, k1⟩ := h
  have H1 := Lib.hid k1
  have HE := Lib.hid (And.intro hea hS)
  obtain ⟨m, hm⟩ : ∃ m, l.length = m := ⟨_, rfl⟩
  have HL : Hid (∀ k, k ≤ m → actsZ (l.take k) ≤ 100000000) := Lib.hid (fun k _ => by
    have := take_sum_le (l.map fun a => 1 + filesZ a.wr + textsZ a.rm) k
    unfold actsZ at hz ⊢
    rw [← List.map_take] at this
    omega)
  have hgd : greatJ l = (decide (40 < m) || decide (40000 < actsZ l)) := by unfold greatJ; rw [hm]
  rw [hm] at hc hl ⊢
  have HN := Lib.hid (And.intro hm hgd)
  clear hm k1 hz hea hgd hS
  go_enter Tryz.func4, Tryz.ntmps4
  go_wp2_with fail
  go_loopg [3, 4] m (fun q nv iv wr => ∃ k n : Nat, k + q = m ∧ iv = .int .i64 (k : Int) ∧ nv = .int .i64 (n : Int) ∧ n ≤ 100000000 ∧ Hid (n = actsZ (l.take k) ∧ Below w.heap.size w wr))
  case atStart => exact ⟨0, 0, by omega, rfl, rfl, by omega, Lib.hid ⟨by simp [actsZ], Below.refl _ _⟩⟩
  case round =>
    obtain ⟨k, n, hk, rfl, rfl, hn, HR⟩ := hrel
    by_cases hlt : k < m
    · obtain ⟨a, ha⟩ : ∃ a, l[k]? = some a := ⟨_, List.getElem?_eq_getElem (by rw [HN.out.1]; exact hlt)⟩
      obtain ⟨b, off, wv, rv, rfl, hb, x0, x1, hfw, htr⟩ := H1.out k a ha
      have hbl : b < wr.heap.size := Nat.lt_of_lt_of_le (HE.out.2 b hb) HR.out.2.size
      replace x0 := (HR.out.2.cell (p := ⟨b, off + k * 2, none⟩) (HE.out.2 b hb)).trans x0
      replace x1 := (HR.out.2.cell (p := ⟨b, off + k * 2 + 1, none⟩) (HE.out.2 b hb)).trans x1
      have hfs : ∀ W, Below w.heap.size w W → FilesS W S wv a.wr ∧ TextsS W S rv a.rm := fun W hB => ⟨hfw.chg (Chg.below hB (fun _ => False)) (fun k hk => ⟨hk, fun h => h⟩), htr.chg (Chg.below hB (fun _ => False)) (fun k hk => ⟨hk, fun h => h⟩)⟩
      obtain ⟨wA, wc, rfl, _⟩ := hfw
      obtain ⟨rA, rc, rfl, _⟩ := htr
      have hea := HE.out.1 a (List.mem_of_getElem? ha)
      have HF : Hid (∀ W, Below w.heap.size w W → Calls Tryz.prog 13 #[.slice wA a.wr.length wc] W fun e w' => e = .returned (.int .i64 (filesZ a.wr : Int)) ∧ Below W.heap.size W w') := Lib.hid (fun W hB => filesSize_any (hfs W hB).1 hea.1)
      have HT : Hid (∀ W, Below w.heap.size w W → Calls Tryz.prog 14 #[.slice rA a.rm.length rc] W fun e w' => e = .returned (.int .i64 (textsZ a.rm : Int)) ∧ Below W.heap.size W w') := Lib.hid (fun W hB => textsSize_any (hfs W hB).2 hea.2)
      have hnx : actsZ (l.take (k + 1)) = n + (1 + filesZ a.wr + textsZ a.rm) := by
        rw [take_snoc ha, HR.out.1]
        unfold actsZ
        rw [List.map_append, List.sum_append]
        simp
      have hle := HL.out (k + 1) (by omega)
      rw [hnx] at hle
      obtain ⟨fz, hfz⟩ : ∃ fz, filesZ a.wr = fz := ⟨_, rfl⟩
      obtain ⟨tz, htz⟩ : ∃ tz, textsZ a.rm = tz := ⟨_, rfl⟩
      rw [hfz] at HF hnx hle
      rw [htz] at HT hnx hle
      have d0 : 0 ≤ (k : Int) ∧ (k : Int) < (m : Int) := by omega
      have d1 : IntKind.i64.wrap ((n : Int) + 1) = (n : Int) + 1 := wrap_i64n (by omega) (by omega)
      have d2 : IntKind.i64.wrap ((n : Int) + 1 + (fz : Int)) = (n : Int) + 1 + (fz : Int) := wrap_i64n (by omega) (by omega)
      have d3 : IntKind.i64.wrap ((n : Int) + 1 + (fz : Int) + (tz : Int)) = (n : Int) + 1 + (fz : Int) + (tz : Int) := wrap_i64n (by omega) (by omega)
      have HX := Lib.hid hnx
      have hA := HR.out.2
      clear hfs hea hnx hfz htz ha hb
      go_wp2_with fail
      obtain ⟨wv, hwv⟩ : ∃ x, x = wr := ⟨_, rfl⟩
      subst hwv
      refine wp_region_held_drew (S := (fun w' => w'.cell? ⟨b, off + k * 2, none⟩ = some (.slice wA a.wr.length wc) ∧ w'.cell? ⟨b, off + k * 2 + 1, none⟩ = some (.slice rA a.rm.length rc))) (by kernel_rfl) ?_ (fun hHeld0 => ?_)
      · (try dsimp only)
        exact ⟨x0, x1⟩
      refine wpAnyH_take (i := 0) (oi := ⟨some 11, _, _, _, _, _⟩) (v := ?_) rfl (by kernel_rfl) (by kernel_rfl) (by kernel_rfl) (fun _ _ _ h => h) (Or.inl ⟨by kernel_rfl, ?_⟩) (by assumption) ?_
      rotate_left
      · (intro w hSw; (try dsimp only at hSw); go_simp; (first | done | with_reducible rfl))
      (try simp only [Act.put, List.setIfInBounds_toArray, List.set_cons_zero, List.set_cons_succ])
      refine wpAnyH_take (i := 1) (oi := ⟨some 12, _, _, _, _, _⟩) (v := ?_) rfl (by kernel_rfl) (by kernel_rfl) (by kernel_rfl) (fun _ _ _ h => h) (Or.inl ⟨by kernel_rfl, ?_⟩) (by assumption) ?_
      rotate_left
      · (intro w hSw; (try dsimp only at hSw); go_simp; (first | done | with_reducible rfl))
      (try simp only [Act.put, List.setIfInBounds_toArray, List.set_cons_zero, List.set_cons_succ])
      refine wpAnyH_take (i := 2) (oi := ⟨some 13, _, _, _, _, _⟩) (v := ?_) rfl (by kernel_rfl) (by kernel_rfl) (by kernel_rfl) (fun _ _ _ h => h) (Or.inl ⟨by kernel_rfl, ?_⟩) (by assumption) ?_
      rotate_left
      · (intro w hSw; (try dsimp only at hSw); go_simp; (first | done | with_reducible rfl))
      (try simp only [Act.put, List.setIfInBounds_toArray, List.set_cons_zero, List.set_cons_succ])
      refine wpAnyH_take (i := 3) (oi := ⟨some 14, _, _, _, _, _⟩) (v := ?_) rfl (by kernel_rfl) (by kernel_rfl) (by kernel_rfl) (fun _ _ _ h => h) (Or.inl ⟨by kernel_rfl, ?_⟩) (by assumption) ?_
      rotate_left
      · (intro w hSw; (try dsimp only at hSw); go_simp; (first | done | with_reducible rfl))
      (try simp only [Act.put, List.setIfInBounds_toArray, List.set_cons_zero, List.set_cons_succ])
      refine wpAnyH_take (i := 4) (oi := ⟨some 15, _, _, _, _, _⟩) (v := ?_) rfl (by kernel_rfl) (by kernel_rfl) (by kernel_rfl) (fun _ _ _ h => h) (Or.inl ⟨by kernel_rfl, ?_⟩) (by assumption) ?_
      rotate_left
      · (intro w hSw; (try dsimp only at hSw); go_simp; (first | done | with_reducible rfl))
      (try simp only [Act.put, List.setIfInBounds_toArray, List.set_cons_zero, List.set_cons_succ])
      refine wpAnyH_take (i := 5) (oi := ⟨some 16, _, _, _, _, _⟩) (v := ?_) rfl (by kernel_rfl) (by kernel_rfl) (by kernel_rfl) (fun _ _ _ h => h) (Or.inl ⟨by kernel_rfl, ?_⟩) (by assumption) ?_
      rotate_left
      · (intro w hSw; (try dsimp only at hSw); go_simp; (first | done | with_reducible rfl))
      (try simp only [Act.put, List.setIfInBounds_toArray, List.set_cons_zero, List.set_cons_succ])
      refine wpAnyH_take (i := 6) (oi := ⟨some 17, _, _, _, _, _⟩) (v := ?_) rfl (by kernel_rfl) (by kernel_rfl) (by kernel_rfl) (fun _ _ _ h => h) (Or.inl ⟨by kernel_rfl, ?_⟩) (by assumption) ?_
      rotate_left
      · (intro w hSw; (try dsimp only at hSw); go_simp; (first | done | with_reducible rfl))
      (try simp only [Act.put, List.setIfInBounds_toArray, List.set_cons_zero, List.set_cons_succ])
      refine wpAnyH_take (i := 9) (oi := ⟨some 20, _, _, _, _, _⟩) (v := ?_) rfl (by kernel_rfl) (by kernel_rfl) (by kernel_rfl) (fun _ _ _ h => h) (Or.inl ⟨by kernel_rfl, ?_⟩) (by assumption) ?_
      rotate_left
      · (intro w hSw; (try dsimp only at hSw); go_simp; (first | done | with_reducible rfl))
      (try simp only [Act.put, List.setIfInBounds_toArray, List.set_cons_zero, List.set_cons_succ])
      refine wpAnyH_take (i := 10) (oi := ⟨some 21, _, _, _, _, _⟩) (v := ?_) rfl (by kernel_rfl) (by kernel_rfl) (by kernel_rfl) (fun _ _ _ h => h) (Or.inl ⟨by kernel_rfl, ?_⟩) (by assumption) ?_
      rotate_left
      · (intro w hSw; (try dsimp only at hSw); go_simp; (first | done | with_reducible rfl))
      (try simp only [Act.put, List.setIfInBounds_toArray, List.set_cons_zero, List.set_cons_succ])
      refine wpAnyH_take (i := 11) (oi := ⟨some 22, _, _, _, _, _⟩) (v := ?_) rfl (by kernel_rfl) (by kernel_rfl) (by kernel_rfl) (fun _ _ _ h => h) (Or.inl ⟨by kernel_rfl, ?_⟩) (by assumption) ?_
      rotate_left
      · (intro w hSw; (try dsimp only at hSw); go_simp; (first | done | with_reducible rfl))
      (try simp only [Act.put, List.setIfInBounds_toArray, List.set_cons_zero, List.set_cons_succ])
      refine wpAnyH_take (i := 12) (oi := ⟨some 23, _, _, _, _, _⟩) (v := ?_) rfl (by kernel_rfl) (by kernel_rfl) (by kernel_rfl) (fun _ _ _ h => h) (Or.inl ⟨by kernel_rfl, ?_⟩) (by assumption) ?_
      rotate_left
      · (intro w hSw; (try dsimp only at hSw); go_simp; (first | done | with_reducible rfl))
      (try simp only [Act.put, List.setIfInBounds_toArray, List.set_cons_zero, List.set_cons_succ])
      refine wpAnyH_take (i := 13) (oi := ⟨some 24, _, _, _, _, _⟩) (v := ?_) rfl (by kernel_rfl) (by kernel_rfl) (by kernel_rfl) (fun _ _ _ h => h) (Or.inl ⟨by kernel_rfl, ?_⟩) (by assumption) ?_
      rotate_left
      · (intro w hSw; (try dsimp only at hSw); go_simp; (first | done | with_reducible rfl))
      (try simp only [Act.put, List.setIfInBounds_toArray, List.set_cons_zero, List.set_cons_succ])
      refine wpAnyH_ready (rs := [7]) (by kernel_rfl) (by simp) ?_
      refine AllReadyH.cons (o := ⟨some 18, _, _, _, _, _⟩) rfl (fun K hK => ?_) AllReadyH.nil
      go_simp
      first
      | refine (HF.out _ hA).mono ?_
      | (replace hA := hA.drew; refine (HF.out _ hA).mono ?_)
      rintro e wz ⟨rfl, hbx⟩
      replace x0 := (hbx.cell (p := ⟨b, off + k * 2, none⟩) hbl).trans x0
      replace x1 := (hbx.cell (p := ⟨b, off + k * 2 + 1, none⟩) hbl).trans x1
      replace hbl := Nat.lt_of_lt_of_le hbl hbx.size
      replace hA := hA.trans (hbx.mono hA.size)
      clear hbx
      refine hK.out _ _ ?_ (fun hHeld1 => ?_)
      · (try dsimp only)
        exact ⟨x0, x1⟩
      clear hK K hHeld0
      (try simp only [Act.put, List.setIfInBounds_toArray, List.set_cons_zero, List.set_cons_succ])
      refine wpAnyH_take (i := 8) (oi := ⟨some 19, _, _, _, _, _⟩) (v := ?_) rfl (by kernel_rfl) (by kernel_rfl) (by kernel_rfl) (fun _ _ _ h => h) (Or.inl ⟨by kernel_rfl, ?_⟩) (by assumption) ?_
      rotate_left
      · (intro w hSw; (try dsimp only at hSw); go_simp; (first | done | with_reducible rfl))
      (try simp only [Act.put, List.setIfInBounds_toArray, List.set_cons_zero, List.set_cons_succ])
      refine wpAnyH_ready (rs := [14]) (by kernel_rfl) (by simp) ?_
      refine AllReadyH.cons (o := ⟨some 25, _, _, _, _, _⟩) rfl (fun K hK => ?_) AllReadyH.nil
      go_simp
      first
      | refine (HT.out _ hA).mono ?_
      | (replace hA := hA.drew; refine (HT.out _ hA).mono ?_)
      rintro e wz ⟨rfl, hbx⟩
      replace x0 := (hbx.cell (p := ⟨b, off + k * 2, none⟩) hbl).trans x0
      replace x1 := (hbx.cell (p := ⟨b, off + k * 2 + 1, none⟩) hbl).trans x1
      replace hbl := Nat.lt_of_lt_of_le hbl hbx.size
      replace hA := hA.trans (hbx.mono hA.size)
      clear hbx
      refine hK.out _ _ ?_ (fun hHeld2 => ?_)
      · (try dsimp only)
        exact ⟨x0, x1⟩
      clear hK K hHeld1
      (try simp only [Act.put, List.setIfInBounds_toArray, List.set_cons_zero, List.set_cons_succ])
      refine wpAnyH_take (i := 15) (oi := ⟨some 26, _, _, _, _, _⟩) (v := ?_) rfl (by kernel_rfl) (by kernel_rfl) (by kernel_rfl) (fun _ _ _ h => h) (Or.inl ⟨by kernel_rfl, ?_⟩) (by assumption) ?_
      rotate_left
      · (intro w hSw; (try dsimp only at hSw); go_simp; (first | done | with_reducible rfl))
      (try simp only [Act.put, List.setIfInBounds_toArray, List.set_cons_zero, List.set_cons_succ])
      refine wpAnyH_take (i := 16) (oi := ⟨some 3, _, _, _, _, _⟩) (v := ?_) rfl (by kernel_rfl) (by kernel_rfl) (by kernel_rfl) (fun _ _ _ h => h) (Or.inl ⟨by kernel_rfl, ?_⟩) (by assumption) ?_
      rotate_left
      · (intro w hSw; (try dsimp only at hSw); go_simp; (first | done | with_reducible rfl))
      (try simp only [Act.put, List.setIfInBounds_toArray, List.set_cons_zero, List.set_cons_succ])
      refine wpAnyH_done (by kernel_rfl) ?_ _
      go_wp2_with fail
      go_roundg (gk - 1)
      case measure => omega
      case rel => exact ⟨k + 1, n + (1 + fz + tz), by omega, by go_num, by go_num, hle, Lib.hid ⟨HX.out.symm, by first | exact hA | exact hA.drew⟩⟩
    · obtain rfl : k = m := by omega
      have hna : Hid (n = actsZ l) := Lib.hid (by have := HR.out.1; rwa [List.take_of_length_le (by rw [HN.out.1]; exact Nat.le_refl _)] at this)
      by_cases h40 : 40 < k
      · have h40' : (40 : Int) < (k : Int) := by omega
        go_wp2_with fail
        go_ret
        exact ⟨by rw [HN.out.2, decide_eq_true h40]; rfl, HR.out.2⟩
      · have h40' : ¬ (40 : Int) < (k : Int) := by omega
        by_cases hn4 : 40000 < n
        · have hn4' : (40000 : Int) < (n : Int) := by omega
          go_wp2_with fail
          go_ret
          exact ⟨by rw [HN.out.2, ← hna.out, decide_eq_true hn4, Bool.or_true]; (first | done | rfl), HR.out.2⟩
        · have hn4' : ¬ (40000 : Int) < (n : Int) := by omega
          go_wp2_with fail
          go_ret
          exact ⟨by rw [HN.out.2, ← hna.out, decide_eq_false hn4, decide_eq_false h40]; rfl, HR.out.2⟩
end Go.Proofs.YtmldpehkacemfaaGreatDoor
namespace Go.Proofs.YtmldpehkacemfaaGreatDoor
open Go.RowKit Go.Bd
theorem trO_cost (fs : Fs) : costO (trO fs) ≤ 1 := by
  unfold trO
  split <;> simp [costO, DOp.cost]
theorem ops_cost2 (p : Plan) : 512 * costO p.ops ≤ 512 * p.rm.length + (1024 * p.wr.length + textsN p.wr) := by
  unfold Plan.ops
  rw [costO_app]
  have h1 : ∀ l : List ByteArray, costO (l.map .rm) = l.length := fun l => by
    induction l with
    | nil => rfl
    | cons a l ih =>
      unfold costO at ih ⊢
      rw [List.map_cons, List.map_cons, List.sum_cons, ih]
      show 1 + l.length = l.length + 1
      omega
  have h2 : ∀ l : List (ByteArray × Bs), 512 * costO (l.map fun f => .wr f.1 f.2) ≤ 1024 * l.length + (l.map (·.2.length)).sum := fun l => by
    induction l with
    | nil => simp [costO]
    | cons a l ih =>
      unfold costO at ih ⊢
      rw [List.map_cons, List.map_cons, List.sum_cons, List.map_cons, List.sum_cons, List.length_cons]
      show 512 * (a.2.length / 512 + 2 + _) ≤ _
      omega
  have h3 := h1 p.rm
  have h4 := h2 p.wr
  unfold textsN
  omega
theorem ops_log (p : Plan) : 8 * costO p.ops ≤ p.log.length := by
  have h1 := ops_cost2 p
  have h2 := log_size p
  omega
theorem rec_kinds {size n : Nat} {S fs : Fs} (h : Rec size n S fs) (hn : n < 98) : ∀ x ∈ namesB fs, NameK x := by
  rcases h with h | h | ⟨m, p, T, c, rfl, h⟩ | h
  · exact name_kinds h.u h.only (fun s hs => by
      rcases List.mem_cons.1 hs with rfl | hs
      · exact .inl rfl
      · exact .inr ⟨n, by omega, List.mem_singleton.1 hs⟩)
  · exact name_kinds h.u h.only (fun s hs => by
      rcases List.mem_cons.1 hs with rfl | hs
      · exact .inr ⟨n, by omega, rfl⟩
      · exact .inr ⟨n + 1, by omega, List.mem_singleton.1 hs⟩)
  · exact name_kinds h.u h.only (fun s hs => by
      rcases List.mem_cons.1 hs with rfl | hs
      · exact .inr ⟨m, by omega, rfl⟩
      · exact .inr ⟨m + 1, by omega, List.mem_singleton.1 hs⟩)
  · exact name_kinds h.u h.only (fun s hs => .inr ⟨n, by omega, List.mem_singleton.1 hs⟩)
theorem old_cost {fs : Fs} {n : Nat} (h : cntOf fs = some n) (hc : n = 0 ∨ getB fs (cntN (n - 1)) = none) : costO (settleM fs).2 ≤ 4 := by
  rw [settle_old h hc]
  simp only [costO_app]
  have := trO_cost fs
  split
  · simp [costO]; exact Nat.le_trans this (by omega)
  · have e : costO [DOp.wr (cntN n) []] = 2 := rfl
    rw [e]; omega
theorem rec_cost {size n : Nat} {S fs : Fs} (h : Rec size n S fs) (hn : n < 98) : 8 * costO (settleM fs).2 ≤ size + 80 := by
  rcases h with h | h | ⟨m, p, T, c, rfl, h⟩ | h
  · have hno : ∀ m, m < 99 → m ≠ n → getB fs (cntN m) = none := fun m hm hne => h.only _ (own_cnt m) (by simpa using ⟨cnt_trial m, cnt_ne hm (by omega) hne⟩)
    rcases h.cnt with h1 | ⟨rfl, h1⟩
    · have := old_cost (cntOf_some (n := n) (by omega) (by rw [h1]; simp) (fun m h3 h4 => hno m h4 (by omega))) (by
        by_cases h0 : n = 0
        · exact .inl h0
        · exact .inr (hno _ (by omega) (by omega)))
      omega
    · have hc : cntOf fs = none := cntOf_none (fun m h4 => by
        by_cases hm : m = 0
        · subst hm; exact h1
        · exact hno m h4 hm)
      rw [settle_none hc]
      have := trO_cost fs
      simp only
      omega
  · obtain ⟨b, hb, hr⟩ := h.log
    have hc : cntOf fs = some (n + 1) := cntOf_some (by omega) (by rw [hb]; simp) (fun m h3 h4 => h.only _ (own_cnt m) (by simpa using ⟨cnt_ne h4 (by omega) (by omega), cnt_ne h4 (by omega) (by omega)⟩))
    rw [settle_part hc (by rw [h.cnt]; simp) (by rw [hb]; exact hr)]
    have := trO_cost fs
    simp only [costO_app]
    have e : costO [DOp.rm (cntN (n + 1))] = 1 := rfl
    omega
  · have hc : cntOf fs = some (m + 1) := cntOf_some (by omega) (by rw [h.log]; simp) (fun k h3 h4 => h.only _ (own_cnt k) (by simpa using ⟨cnt_ne h4 (by omega) (by omega), cnt_ne h4 (by omega) (by omega)⟩))
    rw [settle_whole (p := p) hc (by rw [h.cnt]; simp) (by rw [h.log]; exact read_log h.fit.ok)]
    have := trO_cost fs
    have h1 := ops_log p
    have h2 := h.lens _ _ h.log
    have h3 := h.fit.sum [cntN (m + 1)] (by simp) (fun s hs => .inl (by rw [List.mem_singleton.1 hs]; exact h.fit.tc.2))
    simp only [List.map_cons, List.map_nil, List.sum_cons, List.sum_nil] at h3
    simp only [costO_app]
    have e : costO [DOp.rm (cntN m), DOp.wr (cntN (m + 1)) []] = 3 := rfl
    omega
  · have hc : cntOf fs = some n := cntOf_some (by omega) h.cnt (fun k h3 h4 => h.only _ (own_cnt k) (by simpa using cnt_ne h4 (by omega) (by omega)))
    have := old_cost hc (by
      by_cases h0 : n = 0
      · exact .inl h0
      · exact .inr (h.only _ (own_cnt _) (by simpa using cnt_ne (by omega) (by omega) (by omega))))
    omega
theorem filesB_clean {n : Nat} {S fs : Fs} (h : Clean n S fs) (hS : Mine S) : filesB fs = filesB S := by
  unfold filesB
  rw [filesM_eq h.1.u hS h.1.own]
end Go.Proofs.YtmldpehkacemfaaGreatDoor
namespace Go.Proofs.YtmldpehkacemfaaGreatDoor
open Go.RowKit Go.Bd
section
variable {n : Nat} {S fs : Fs}
theorem may_of (hc : Clean n S fs) (hS : Mine S) (hn : n < 98) {wr0 l : List (ByteArray × Bs)} {rm : List ByteArray} (ha : Allow fs (wr0.map (·.1)) rm) (hp : l.Perm wr0) (hw : (⟨rm, l⟩ : Plan).weigh ≤ 40000) : (⟨rm, l⟩ : Plan).May S ∧ rm.Nodup := by
  obtain ⟨w1, w2, w3, w4, w5, w6⟩ := weigh_w hw
  have hnm := clean_named hc hS hn
  have hna := List.nodup_append.1 ha.nd
  refine ⟨⟨⟨by omega, ⟨by omega, fun s hs => by have := w5 s hs; omega⟩, ⟨by omega, fun f hf => by have := w4 f hf; omega⟩⟩, fun s hs => ?_, fun f hf => ?_, ?_⟩, hna.2.1⟩
  · obtain ⟨h1, h2⟩ := ha.r s hs
    exact ⟨hnm s h1, h2, by rw [← hc.1.own s h2]; exact h1⟩
  · have hm : f.1 ∈ wr0.map (·.1) := List.mem_map.2 ⟨f, hp.mem_iff.1 hf, rfl⟩
    obtain ⟨h1, h2⟩ := ha.w f.1 hm
    refine ⟨h2.elim (hnm f.1) id, h1, fun hr => hna.2.2 f.1 hm f.1 hr rfl⟩
  · exact (hp.map _).nodup_iff.2 hna.1
theorem clean_len (hc : Clean n S fs) (hS : Mine S) : S.length + (if getB fs (cntN n) = none then 0 else 1) ≤ fs.length := by
  have hin : ∀ s ∈ (if getB fs (cntN n) = none then [] else [cntN n]) ++ S.map (·.1), s ∈ fs.map (·.1) := fun s hs => by
    have h1 : getB fs s ≠ none := by
      rcases List.mem_append.1 hs with h | h
      · split at h
        · cases h
        · rename_i hne
          rw [List.mem_singleton.1 h]; exact hne
      · obtain ⟨g, hg, rfl⟩ := List.mem_map.1 h
        have h2 := getB_of_mem hS.u (s := g.1) (b := g.2) hg
        have h3 := (hS.own g.1 (by rw [h2]; simp)).1
        rw [hc.1.own g.1 h3, h2]; simp
    cases hg : getB fs s with
    | none => exact absurd hg h1
    | some b => exact List.mem_map.2 ⟨_, getB_mem hg, rfl⟩
  have hnd : ((if getB fs (cntN n) = none then [] else [cntN n]) ++ S.map (·.1)).Nodup := by
    split
    · simpa using names_nodup hS.u
    · show (cntN n :: S.map (·.1)).Nodup
      refine List.nodup_cons.2 ⟨fun h => ?_, names_nodup hS.u⟩
      obtain ⟨g, hg, he⟩ := List.mem_map.1 h
      have h2 := getB_of_mem hS.u (s := g.1) (b := g.2) hg
      have h3 := (hS.own g.1 (by rw [h2]; simp)).1
      rw [he, own_cnt] at h3; cases h3
  have := nodup_le hnd hin
  rw [List.length_append, List.length_map, List.length_map] at this
  split at this <;> simp_all <;> omega
theorem newF_newN (hc : Clean n S fs) {l : List (ByteArray × Bs)} (ho : ∀ f ∈ l, ownB f.1 = true) : newF (sizeF fs) l = newN S l := by
  unfold newF newN
  congr 1
  apply List.map_congr_left
  intro f hf
  unfold sizeF
  rw [hc.1.own f.1 (ho f hf)]
  cases getB S f.1 <;> simp
theorem names_length (fs : Fs) : (namesB fs).length = fs.length := by
  unfold namesB
  rw [List.length_mergeSort, List.length_map]
theorem rooms_of (hc : Clean n S fs) (hS : Mine S) {p : Plan} {size log : Nat} (hr : RoomP fs size n p log) (ho : ∀ f ∈ p.wr, ownB f.1 = true) : S.length + 2 ≤ 256 ∧ S.length + newN S p.wr + 2 ≤ 256 + p.rm.length := by
  have h1 := hr.files
  have h2 := clean_len hc hS
  rw [names_length, newF_newN hc ho] at h1
  split at h2 <;> simp_all <;> omega
end
end Go.Proofs.YtmldpehkacemfaaGreatDoor
namespace Go.Proofs.YtmldpehkacemfaaGreatDoor
open Go.RowKit Go.Bd
def lvA : ByteArray := ⟨#[97]⟩
def lvB : ByteArray := ⟨#[98]⟩
def lvC : ByteArray := ⟨#[99]⟩
def lvJ : ByteArray := ⟨#[106, 111, 117, 114, 110, 97, 108, 45, 120]⟩
def lvW : List (ByteArray × Bs) := [(lvA, [120]), (lvB, [121])]
theorem perm2 {α : Type} {l : List α} {a b : α} (h : l.Perm [a, b]) : l = [a, b] ∨ l = [b, a] := by
  have hl := h.length_eq
  match l, hl with
  | [u, v], _ =>
    have h1 : u ∈ [a, b] := h.mem_iff.1 (by simp)
    rcases List.mem_cons.1 h1 with e | e
    · subst e
      have h2 := List.perm_cons u |>.1 h
      rw [List.perm_singleton.1 h2]
      exact .inl rfl
    · rw [List.mem_singleton.1 e] at h ⊢
      have h2 : ([b, v] : List α).Perm [b, a] := h.trans (List.Perm.swap _ _ _)
      have h3 := List.perm_cons b |>.1 h2
      rw [List.perm_singleton.1 h3]
      exact .inr rfl
theorem lv_allow : Allow [] (lvW.map (·.1)) [] := by
  refine ⟨fun s hs => ?_, (fun s hs => by cases hs), by decide⟩
  have : s = lvA ∨ s = lvB := by simpa [lvW] using hs
  rcases this with e | e <;> rw [e] <;> exact ⟨by decide, .inr (by decide)⟩
theorem lv_perm {l : List (ByteArray × Bs)} (h : l.Perm lvW) : l = [(lvA, [120]), (lvB, [121])] ∨ l = [(lvB, [121]), (lvA, [120])] := perm2 h
theorem lv_weigh {l : List (ByteArray × Bs)} (h : l.Perm lvW) : (⟨[], l⟩ : Plan).weigh ≤ 40000 := by
  rcases lv_perm h with rfl | rfl <;> decide
theorem lv_weigh0 : (⟨[], lvW⟩ : Plan).weigh ≤ 40000 := lv_weigh (List.Perm.refl _)
theorem lv_may {l : List (ByteArray × Bs)} (h : l.Perm lvW) : (⟨[], l⟩ : Plan).May [] := (may_of (n := 0) (fs := []) clean_nil mine_nil (by omega) lv_allow h (lv_weigh h)).1
theorem lv_log {l : List (ByteArray × Bs)} (h : l.Perm lvW) : (⟨[], l⟩ : Plan).log.length ≤ 100 := by
  rw [log_size]
  rcases lv_perm h with rfl | rfl <;> decide
theorem lv_room {l : List (ByteArray × Bs)} (h : l.Perm lvW) : (⟨[], l⟩ : Plan).Room 100000 [] := by
  have h1 := lv_log h
  have h2 := apply_used (p := ⟨[], l⟩) (S := []) mine_nil.u
  have h3 : textsN l ≤ 10 := by rcases lv_perm h with rfl | rfl <;> decide
  have h4 : usedB [] = 0 := rfl
  have h5 : (applyP ⟨[], l⟩ []).length + 2 ≤ 256 := by rcases lv_perm h with rfl | rfl <;> decide
  refine ⟨by decide, h5, ?_⟩
  rw [show (⟨[], l⟩ : Plan).wr = l from rfl] at h2
  omega
theorem lv_roomP {l : List (ByteArray × Bs)} (h : l.Perm lvW) : RoomP [] 100000 0 ⟨[], l⟩ (⟨[], l⟩ : Plan).log.length := by
  have h1 := lv_log h
  have h2 := growB_le (f := sizeF []) ⟨[], l⟩ (fun s => by simp [sizeF, getB])
  have h3 : textsN l ≤ 10 := by rcases lv_perm h with rfl | rfl <;> decide
  rw [show (⟨[], l⟩ : Plan).wr = l from rfl] at h2
  refine ⟨?_, write_ok name_trial (.inr (by decide)) ?_⟩
  · have h4 := newF_le (sizeF []) l
    have h5 : l.length = 2 := by rw [h.length_eq]; rfl
    rw [names_length, show (⟨[], l⟩ : Plan).wr = l from rfl, show (⟨[], l⟩ : Plan).rm = [] from rfl]
    simp only [List.length_nil]
    have h6 : (if getB [] (cntN 0) = none then (2 : Int) else 1) ≤ 2 := by split <;> omega
    omega
  · rw [zerosB_length, show usedB [] = 0 from rfl]
    unfold zN
    omega
theorem lv_clean {l : List (ByteArray × Bs)} (h : l.Perm lvW) (z : Bs) : Clean 1 (applyP ⟨[], l⟩ []) (runR (runO 100000 (changeO ⟨[], l⟩ 0 (runR []) z) [])) :=
  (change_rec (n := 0) (h := []) (by omega) mine_nil (lv_may h) (lv_room h) clean_nil).2
theorem lv_mine {l : List (ByteArray × Bs)} (h : l.Perm lvW) : Mine (applyP ⟨[], l⟩ []) := mine_nil.apply (lv_may h)
theorem lv_files {l : List (ByteArray × Bs)} (h : l.Perm lvW) : filesB (applyP ⟨[], l⟩ []) = lvW := by
  have hn : namesB (applyP ⟨[], l⟩ []) = [[97], [98]] := by
    refine sorted_eq (List.pairwise_mergeSort leB_trans leB_total _) (by decide) ((List.mergeSort_perm _ _).trans ?_)
    rcases lv_perm h with rfl | rfl
    · exact List.Perm.refl _
    · exact List.Perm.swap _ _ _
  rw [filesB_eq, hn]
  rcases lv_perm h with rfl | rfl <;> decide
theorem lv_noC {l : List (ByteArray × Bs)} (h : l.Perm lvW) {hist : List Raw} (hc : Clean 1 (applyP ⟨[], l⟩ []) (runR hist)) : ¬ Allow (runR hist) [] [lvC] := by
  intro ha
  obtain ⟨h1, h2⟩ := ha.r lvC (by simp)
  rw [hc.1.own _ h2] at h1
  refine h1 ?_
  rcases lv_perm h with rfl | rfl <;> decide
theorem lv_noJ {fs : Fs} : ¬ Allow fs [lvJ] [] := by
  intro ha
  have h1 := (ha.w lvJ (by simp)).1
  exact absurd h1 (by decide)
theorem change_cost (p : Plan) (n : Nat) (fs : Fs) (z : Bs) (hz : z.length ≤ p.log.length + textsN p.wr) : 15 * costO (changeO p n fs z) ≤ 180 + 31 * p.weigh := by
  have h1 := Go.Proofs.YtmldpehkacemfaaGreatDoor.ops_cost p
  have h2 := log_size p
  unfold changeO
  rw [costO_app, costO_app]
  have e1 : costO [.wr trialN z, .rm trialN] = z.length / 512 + 2 + 1 := rfl
  have e2 : costO (if getB fs (cntN n) = none then [.wr (cntN n) []] else []) ≤ 2 := by
    split
    · exact Nat.le_refl _
    · exact Nat.zero_le _
  have e3 : costO (.wr (cntN (n + 1)) p.log :: (p.ops ++ [.rm (cntN n), .wr (cntN (n + 1)) []])) = (p.log.length / 512 + 2) + (costO p.ops + 3) := by
    unfold costO
    rw [List.map_cons, List.sum_cons, List.map_append, List.sum_append]
    rfl
  rw [e1, e3]
  unfold Plan.weigh
  omega
end Go.Proofs.YtmldpehkacemfaaGreatDoor
namespace Go.Proofs.YtmldpehkacemfaaGreatDoor
open Go.RowKit Go.Bd
set_option maxRecDepth 100000 in
theorem read_nil (s : ByteArray) (w : World) : Calls Tryz.prog 39 #[.pointer none, .string s] w fun e w' => e = .returned (.tuple #[.slice none 0 0, .int .i64 2]) ∧ w' = w := by
  go_enter Tryz.func39, Tryz.ntmps39
  go_wp2_with (go_at_call 17; refine (there_nil _).mono ?_; rintro e w1 ⟨rfl, rfl⟩)
  go_ret2
  exact ⟨rfl, rfl⟩
set_option maxRecDepth 100000 in
theorem there_none (w : World) : Calls Tryz.prog 15 #[.pointer none] w fun e w' => e = .returned (.bool false) ∧ w' = w := by
  go_enter Tryz.func15, Tryz.ntmps15
  go_wp2_with (go_at_call 39; refine (read_nil _ _).mono ?_; rintro e w1 ⟨rfl, rfl⟩)
  go_ret
  exact ⟨rfl, rfl⟩
set_option maxRecDepth 100000 in
theorem open_nil (w : World) : Calls Tryz.prog 7 #[.pointer none] w fun e w' => e = .returned (.tuple #[.int .u64 0, .int .i64 2]) ∧ w' = w := by
  go_enter Tryz.func7, Tryz.ntmps7
  go_wp2_with (go_at_call 15; refine (there_none _).mono ?_; rintro e w1 ⟨rfl, rfl⟩)
  go_ret2
  exact ⟨rfl, rfl⟩
section
variable {w : World} {F Ro : Nat → Prop} {db size : Nat} {hist : List Raw}
theorem open_clean (h : Dk w F Ro db size hist) {n : Nat} {S : Fs} (hc : Clean n S (runR hist)) (hS : Mine S) (hn : n < 98) (hh : hist.length ≤ 190000) (hsz : size ≤ 8388608) :
    Calls Tryz.prog 7 #[.pointer (some ⟨db, 0, none⟩)] w fun e w' => e = .returned (.tuple #[.int .u64 (n : Int), .int .i64 0]) ∧ DkTo w w' F Ro db size hist := by
  have hs := settle_clean hc hn
  have ho := open_any h (clean_kinds hc hn) hh (by rw [hs]; exact Nat.zero_le _) hsz
  rw [hs] at ho
  exact ho
theorem files_clean (h : Dk w F Ro db size hist) {n : Nat} {S : Fs} (hc : Clean n S (runR hist)) (hS : Mine S) (hn : n < 98) (hh : hist.length ≤ 190000) :
    Calls Tryz.prog 10 #[.pointer (some ⟨db, 0, none⟩)] w fun e w' => ∃ v, e = .returned (.tuple #[v, .int .i64 0]) ∧ w'.ownsRow w.heap.size 50 2 v (filesB S).length (rowFl (filesB S)) ∧ Below w.heap.size w w' := by
  have hf := files_any h (fun s hs => clean_named hc hS hn s hs) (by omega)
  rw [filesB_clean hc hS] at hf
  exact hf
end
theorem TextsS.none (w : World) (S : Nat → Prop) : TextsS w S (.slice none 0 0) [] := ⟨_, 0, rfl, Nat.le_refl _, fun j s h => by simp at h⟩
theorem FilesS.none (w : World) (S : Nat → Prop) : FilesS w S (.slice none 0 0) [] := ⟨_, 0, rfl, Nat.le_refl _, fun j s h => by simp at h⟩
theorem lit_files2 (w2 : World) (τ : Nat) (S : Nat → Prop) (hS : S w2.heap.size) : FilesS (w2.alloc (.cells #[.string lvA, .string ⟨#[120]⟩, .string lvB, .string ⟨#[121]⟩] τ)) S (.slice (some ⟨w2.heap.size, 0, none⟩) 2 2) lvW := by
  have hn := Holds.new w2 τ #[.string lvA, .string ⟨#[120]⟩, .string lvB, .string ⟨#[121]⟩]
  have c0 := hn.cell 0
  have c1 := hn.cell 1
  have c2 := hn.cell 2
  have c3 := hn.cell 3
  simp at c0 c1 c2 c3
  refine ⟨_, 2, rfl, Nat.le_refl _, fun j f hj => ⟨_, _, rfl, hS, ?_⟩⟩
  match j, hj with
  | 0, hj =>
    injection hj with hj
    subst hj
    exact ⟨by simp [c0], by simp [c1]⟩
  | 1, hj =>
    injection hj with hj
    subst hj
    exact ⟨by simp [c2], by simp [c3]⟩
theorem lit_file1 (w2 : World) (τ : Nat) (s : ByteArray) (S : Nat → Prop) (hS : S w2.heap.size) : FilesS (w2.alloc (.cells #[.string s, .string ⟨#[]⟩] τ)) S (.slice (some ⟨w2.heap.size, 0, none⟩) 1 1) [(s, [])] := by
  have hn := Holds.new w2 τ #[.string s, .string ⟨#[]⟩]
  have c0 := hn.cell 0
  have c1 := hn.cell 1
  simp at c0 c1
  refine ⟨_, 1, rfl, Nat.le_refl _, fun j f hj => ⟨_, _, rfl, hS, ?_⟩⟩
  match j, hj with
  | 0, hj =>
    injection hj with hj
    subst hj
    exact ⟨by simp [c0], by simp [c1]⟩
theorem lit_text1 (w2 : World) (τ : Nat) (s : ByteArray) (S : Nat → Prop) (hS : S w2.heap.size) : TextsS (w2.alloc (.cells #[.string s] τ)) S (.slice (some ⟨w2.heap.size, 0, none⟩) 1 1) [s] := by
  have hn := Holds.new w2 τ #[.string s]
  have c0 := hn.cell 0
  simp at c0
  refine ⟨_, 1, rfl, Nat.le_refl _, fun j f hj => ⟨_, _, rfl, hS, ?_⟩⟩
  match j, hj with
  | 0, hj =>
    injection hj with hj
    subst hj
    simp [c0]
set_option maxRecDepth 100000 in
set_option maxHeartbeats 4000000 in
theorem lives_any (w : World) : Calls Tryz.prog 5 #[] w fun e w' => e = .returned (.bool true) ∧ Below w.heap.size w w' := by
  go_enter Tryz.func5, Tryz.ntmps5
  go_wp2_with fail
  refine (new_dk 100000 (by omega) _).mono ?_
  rintro e w1 ⟨db, rfl, hd1, hb1⟩
  have ho1 := open_clean hd1 clean_nil mine_nil (by omega) (by simp) (by omega)
  have H1 := Lib.hid hd1
  have B1 := Lib.hid hb1
  clear hd1 hb1
  go_wp2_with fail
  refine ho1.mono ?_
  clear ho1
  rintro e w2 ⟨rfl, F2, Ro2, hd2, hF2, hR2, hc2⟩
  have hz2 := hd2.ltF
  have hA2 := fun τ => (Below.refl w2.heap.size w2).alloc (Nat.le_refl _) (.cells #[.string lvA, .string ⟨#[120]⟩, .string lvB, .string ⟨#[121]⟩] τ)
  have hch := fun τ => change_any (hd2.below (hA2 τ)) clean_nil mine_nil (by omega) lvW [] (.slice (some ⟨w2.heap.size, 0, none⟩) 2 2) (.slice none 0 0) (lit_files2 w2 τ _ ⟨by simp, fun h => by have := hz2 _ h; omega⟩) (TextsS.none _ _) lv_weigh0 (by simp) (by omega)
  have C2 := Lib.hid (And.intro hF2 (And.intro hc2 hA2))
  clear hd2 hF2 hR2 hc2 hz2 hA2
  go_wp2_with fail
  refine (hch _).mono ?_
  clear hch
  rintro e w3 ⟨code, rfl, ho⟩
  obtain ⟨l, z, rfl, hp, hz, hd3⟩ : ∃ l z, code = 0 ∧ l.Perm lvW ∧ z.length ≤ (⟨[], l⟩ : Plan).log.length + textsN l ∧ DkTo _ w3 F2 Ro2 db 100000 (runO 100000 (changeO ⟨[], l⟩ 0 (runR []) z) []) := by
    cases ho with
    | arg h _ => exact absurd lv_allow h
    | full l hp h _ _ => exact absurd (lv_roomP hp) h
    | ok l hp _ _ z hz hd => exact ⟨l, z, rfl, hp, hz, hd⟩
  clear ho
  obtain ⟨F3, Ro3, hd3, hF3, hR3, hc3⟩ := hd3
  have hcl := lv_clean hp z
  have hmi := lv_mine hp
  have hfi := lv_files hp
  have hnc := fun hist hc => lv_noC (hist := hist) hp hc
  obtain ⟨S1, hS1⟩ : ∃ S1, applyP ⟨[], l⟩ [] = S1 := ⟨_, rfl⟩
  rw [hS1] at hcl hmi hfi hnc
  have hlen : (runO 100000 (changeO ⟨[], l⟩ 0 (runR []) z) []).length ≤ 10000 := by
    have h1 := change_cost ⟨[], l⟩ 0 (runR []) z hz
    have h2 := runO_cost 100000 (changeO ⟨[], l⟩ 0 (runR []) z) []
    have h3 : (⟨[], l⟩ : Plan).weigh ≤ 100 := by rcases lv_perm hp with rfl | rfl <;> decide
    rw [List.length_nil] at h2
    omega
  obtain ⟨h1, hh1⟩ : ∃ h1, runO 100000 (changeO ⟨[], l⟩ 0 (runR []) z) [] = h1 := ⟨_, rfl⟩
  rw [hh1] at hcl hd3 hlen
  clear hS1 hh1
  have C3 := Lib.hid (And.intro hF3 (And.intro hc3 (And.intro hcl (And.intro hmi (And.intro hfi (hnc h1 hcl))))))
  have ho3 := open_clean hd3 hcl hmi (by omega) (by omega) (by omega)
  clear hd3 hF3 hR3 hc3 hcl hmi hfi hnc
  go_wp2_with fail
  refine ho3.mono ?_
  clear ho3
  rintro e w4 ⟨rfl, F4, Ro4, hd4, hF4, hR4, hc4⟩
  have hf4 := files_clean hd4 C3.out.2.2.1 C3.out.2.2.2.1 (by omega) (by omega)
  rw [C3.out.2.2.2.2.1] at hf4
  have C4 := Lib.hid (And.intro hF4 (And.intro hc4 hd4))
  clear hd4 hF4 hR4 hc4
  go_wp2_with fail
  refine hf4.mono ?_
  clear hf4
  rintro e w5 ⟨v, rfl, ho5, hb5⟩
  have hf5 := FilesS.own ho5 rfl
  obtain ⟨A5, c5, rfl, hc5, k5⟩ := hf5
  obtain ⟨b5, off5, rfl, _, k50, k51⟩ := k5 1 (lvB, [121]) rfl
  simp only at k50 k51
  have C5 := Lib.hid (And.intro hb5 ho5)
  clear ho5 hb5 k5
  go_wp2_with fail
  refine (open_nil _).mono ?_
  rintro e w6 ⟨rfl, hw6⟩
  subst w6
  have hlw : lvW.length = 2 := rfl
  rw [hlw]
  rw [hlw] at hc5
  have q50 : w5.cell? ⟨b5, off5 + 1 * 2, none⟩ = some (.string ⟨#[98]⟩) := k50
  clear k50 hlw
  have hs5 := C5.out.1.size
  have hd5 := C4.out.2.2.below C5.out.1
  have hz5 := hd5.ltF
  have hA5 := fun τ => (Below.refl w5.heap.size w5).alloc (Nat.le_refl _) (.cells #[.string lvC] τ)
  have hcc := fun τ => change_any (hd5.below (hA5 τ)) C3.out.2.2.1 C3.out.2.2.2.1 (by omega) [] [lvC] (.slice none 0 0) (.slice (some ⟨w5.heap.size, 0, none⟩) 1 1) (FilesS.none _ _) (lit_text1 w5 τ lvC _ ⟨by simp, fun h => by have := hz5 _ h; omega⟩) (by decide) (by omega) (by omega)
  have C6 := Lib.hid hA5
  clear hd5 hz5 hA5 hs5
  go_wp2_with fail
  refine (hcc _).mono ?_
  clear hcc
  rintro e w7 ⟨code, rfl, ho⟩
  obtain ⟨rfl, hd7⟩ : code = 1 ∧ DkTo _ w7 F4 Ro4 db 100000 h1 := by
    cases ho with
    | arg h hd => exact ⟨rfl, hd⟩
    | full l hp h ha _ => exact absurd ha C3.out.2.2.2.2.2
    | ok l hp _ ha z _ hd => exact absurd ha C3.out.2.2.2.2.2
  clear ho
  obtain ⟨F7, Ro7, hd7, hF7, hR7, hc7⟩ := hd7
  have hz7 := hd7.ltF
  have hA7 := fun τ => (Below.refl w7.heap.size w7).alloc (Nat.le_refl _) (.cells #[.string lvJ, .string ⟨#[]⟩] τ)
  have hcc := fun τ => change_any (hd7.below (hA7 τ)) C3.out.2.2.1 C3.out.2.2.2.1 (by omega) [(lvJ, [])] [] (.slice (some ⟨w7.heap.size, 0, none⟩) 1 1) (.slice none 0 0) (lit_file1 w7 τ lvJ _ ⟨by simp, fun h => by have := hz7 _ h; omega⟩) (TextsS.none _ _) (by decide) (by omega) (by omega)
  have C7 := Lib.hid (And.intro hF7 (And.intro hc7 hA7))
  clear hd7 hF7 hR7 hc7 hz7 hA7
  go_wp2_with fail
  refine (hcc _).mono ?_
  clear hcc
  rintro e w8 ⟨code, rfl, ho⟩
  obtain ⟨rfl, hd8⟩ : code = 1 ∧ DkTo _ w8 F7 Ro7 db 100000 h1 := by
    cases ho with
    | arg h hd => exact ⟨rfl, hd⟩
    | full l hp h ha _ => exact absurd ha lv_noJ
    | ok l hp _ ha z _ hd => exact absurd ha lv_noJ
  clear ho
  have C8 := Lib.hid hd8.chg
  clear hd8
  go_wp2_with fail
  go_ret
  refine ⟨rfl, ?_⟩
  have z1 := B1.out.size
  have f2 : ∀ k, F2 k → w.heap.size ≤ k := fun k hk => (C2.out.1 k hk).elim (fun h => h.1) (fun h => by omega)
  have b2 := B1.out.trans (C2.out.2.1.toBelow z1 (fun k hk => hk.1))
  have b2' := b2.trans ((C2.out.2.2 50).mono b2.size)
  have z2 := b2.size
  have z2' := b2'.size
  have f3 : ∀ k, F3 k → w.heap.size ≤ k := fun k hk => (C3.out.1 k hk).elim (f2 k) (fun h => Nat.le_trans z2' h)
  have b3 := b2'.trans (C3.out.2.1.toBelow z2' f2)
  have z3 := b3.size
  have f4 : ∀ k, F4 k → w.heap.size ≤ k := fun k hk => (C4.out.1 k hk).elim (f3 k) (fun h => by omega)
  have b4 := b3.trans (C4.out.2.1.toBelow z3 f3)
  have b5 := b4.trans (C5.out.1.mono b4.size)
  have b6 := b5.trans ((C6.out 9).mono b5.size)
  have z6 := b6.size
  have f7 : ∀ k, F7 k → w.heap.size ≤ k := fun k hk => (C7.out.1 k hk).elim (f4 k) (fun h => Nat.le_trans z6 h)
  have b7 := b6.trans (C7.out.2.1.toBelow z6 f4)
  have b8 := b7.trans ((C7.out.2.2 50).mono b7.size)
  exact b8.trans (C8.out.toBelow b8.size f7)
end Go.Proofs.YtmldpehkacemfaaGreatDoor
namespace Go.Proofs.YtmldpehkacemfaaGreatDoor
open Go.RowKit Go.Bd
theorem actsZ_take {l : List ActJ} {k : Nat} {a : ActJ} (h : l[k]? = some a) : actsZ (l.take (k + 1)) = actsZ (l.take k) + (1 + filesZ a.wr + textsZ a.rm) := by
  unfold actsZ
  rw [List.take_add_one, h, List.map_append, List.sum_append]
  rfl
theorem weigh_eq {wr0 l : List (ByteArray × Bs)} {rm : List ByteArray} (hp : l.Perm wr0) : (⟨rm, l⟩ : Plan).weigh = filesZ wr0 + textsZ rm := by
  unfold Plan.weigh textsN filesZ textsZ
  have h1 := hp.length_eq
  have h2 : ∀ l : List (ByteArray × Bs), (l.map fun f => f.1.size + f.2.length).sum = (l.map (·.1.size)).sum + (l.map (·.2.length)).sum := fun l => by
    induction l with
    | nil => rfl
    | cons a l ih => simp only [List.map_cons, List.sum_cons]; omega
  have h3 := ((hp.map (fun f => f.1.size)).sum_nat)
  have h4 := ((hp.map (fun f => f.2.length)).sum_nat)
  have h5 := h2 wr0
  simp only at h3 h4 ⊢
  omega
structure Lf (z i : Nat) (St : List Fs) (En : List Nat) (hist : List Raw) : Prop where
  life : Life 400000 St En hist
  mine : ∀ S ∈ St, Mine S
  len : St.length ≤ i + 1
  used : ∀ S, St[St.length - 1]? = some S → usedB S ≤ z
  hl : 15 * hist.length ≤ 180 * i + 31 * z
theorem Lf.first : Lf 0 0 [[]] [0] [] := ⟨Life.first _, fun S hS => by rw [List.mem_singleton.1 hS]; exact mine_nil, by simp, fun S hS => by
  have : S = [] := by simpa using hS.symm
  rw [this]; exact Nat.le_refl _, by simp⟩
section
variable {z i : Nat} {St : List Fs} {En : List Nat} {hist : List Raw}
theorem Lf.same (h : Lf z i St En hist) {z' : Nat} (hz : z ≤ z') : Lf z' (i + 1) St En hist :=
  ⟨h.life, h.mine, by have := h.len; omega, fun S hS => by have := h.used S hS; omega, by have := h.hl; omega⟩
theorem Lf.last (h : Lf z i St En hist) : ∃ S, St[St.length - 1]? = some S ∧ Mine S ∧ Clean (St.length - 1) S (runR hist) := h.life.last
theorem Lf.done (h : Lf z i St En hist) (hi : i < 40) {S : Fs} (hS : St[St.length - 1]? = some S) {wr0 l : List (ByteArray × Bs)} {rm : List ByteArray} (hp : l.Perm wr0) {z' : Nat} (hz : z + (filesZ wr0 + textsZ rm) ≤ z') (hz' : z' ≤ 40000)
    (hr : RoomP (runR hist) 400000 (St.length - 1) ⟨rm, l⟩ (⟨rm, l⟩ : Plan).log.length) (ha : Allow (runR hist) (wr0.map (·.1)) rm) (y : Bs) (hy : y.length ≤ (⟨rm, l⟩ : Plan).log.length + textsN l) :
    Lf z' (i + 1) (St ++ [applyP ⟨rm, l⟩ S]) (En ++ [(runO 400000 (changeO ⟨rm, l⟩ (St.length - 1) (runR hist) y) hist).length]) (runO 400000 (changeO ⟨rm, l⟩ (St.length - 1) (runR hist) y) hist) := by
  obtain ⟨S0, h0, hm, hc⟩ := h.last
  rw [hS] at h0
  injection h0 with h0
  subst h0
  have hlen := h.len
  have hpos := h.life.pos
  have hw := weigh_eq (rm := rm) hp
  have hu := h.used S hS
  obtain ⟨hmay, hnd⟩ := may_of hc hm (by omega) ha hp (by omega)
  obtain ⟨r1, r2⟩ := rooms_of hc hm hr (fun f hf => (ha.w f.1 (List.mem_map.2 ⟨f, hp.mem_iff.1 hf, rfl⟩)).1)
  have hroom := room_of hm hmay hnd r1 r2 (by omega)
  have hau := apply_used (p := ⟨rm, l⟩) hm.u
  have hcost := change_cost ⟨rm, l⟩ (St.length - 1) (runR hist) y hy
  have hrl := runO_cost 400000 (changeO ⟨rm, l⟩ (St.length - 1) (runR hist) y) hist
  have hhl := h.hl
  refine ⟨h.life.step (by omega) hS hmay hroom, fun T hT => ?_, by rw [List.length_append, List.length_singleton]; omega, fun T hT => ?_, by omega⟩
  · rcases List.mem_append.1 hT with hT | hT
    · exact h.mine T hT
    · rw [List.mem_singleton.1 hT]; exact hm.apply hmay
  · rw [List.length_append, List.length_singleton, Nat.add_sub_cancel, List.getElem?_append_right (Nat.le_refl _), Nat.sub_self] at hT
    injection hT with hT
    subst hT
    have : textsN l ≤ (⟨rm, l⟩ : Plan).weigh := by unfold Plan.weigh; show textsN l ≤ _ + textsN l + _; omega
    rw [show (⟨rm, l⟩ : Plan).wr = l from rfl] at hau
    omega
theorem Lf.cut (h : Lf z i St En hist) {k : Nat} (hk : k ≤ hist.length) : ∃ j S, St[j]? = some S ∧ Mine S ∧ Rec 400000 j S (runR (hist.take k)) ∧ ∀ e, En[j + 1]? = some e → ¬ e ≤ k := by
  obtain ⟨j, S, h1, h2, h3⟩ := h.life.cut k hk
  exact ⟨j, S, h1, h.mine S (List.mem_of_getElem? h1), h2, fun e he hle => by have := h3 _ _ he hle; omega⟩
end
theorem open_plain {n : Nat} {S : Fs} {h : List Raw} (hr : Rec 400000 n S (runR h)) (hn : n < 98) : ∃ h', runO 400000 (settleM (runR h)).2 h = h' ∧ (settleM (runR h)).1 = n ∧ Clean n S (runR h') ∧ h.length ≤ h'.length ∧ h'.length ≤ h.length + 50010 ∧ ∀ k, h.length ≤ k → k ≤ h'.length → Rec 400000 n S (runR (h'.take k)) := by
  obtain ⟨h1, h2, h3⟩ := settle_rec (size := 400000) hn hr
  have h4 := rec_cost hr hn
  have h5 := runO_cost 400000 (settleM (runR h)).2 h
  have h6 := runO_len 400000 (settleM (runR h)).2 h
  exact ⟨_, rfl, h1, h3, h6, by omega, h2⟩
end Go.Proofs.YtmldpehkacemfaaGreatDoor
namespace Go.Proofs.YtmldpehkacemfaaGreatDoor
open Go.RowKit Go.Bd
theorem rows_info : (Tryz.prog.info? 39).map (fun i => (i.zero, i.size, i.bytes)) = some (some (.slice none 0 0), 1, 24) := by kernel_rfl
theorem under_rows : Tryz.prog.underlying 36 = some (.slice 39) := by kernel_rfl
theorem ints_info : (Tryz.prog.info? 3).map (fun i => (i.zero, i.size, i.bytes)) = some (some (.int .i64 0), 1, 8) := by kernel_rfl
theorem under_intsJ : Tryz.prog.underlying 37 = some (.slice 3) := by kernel_rfl
def encE (e : Nat) : Value := .int .i64 (e : Int)
structure Jr (w0 W : World) (db : Nat) (F Ro : Nat → Prop) (hist : List Raw) (St : List Fs) (En : List Nat) (svs : List Value) (g1 c1 g2 c2 : Nat) : Prop where
  dk : Dk W F Ro db 400000 hist
  low : ∀ k, F k → w0.heap.size ≤ k
  bel : Below w0.heap.size w0 W
  so : W.ownsRow w0.heap.size 39 1 (.slice (some ⟨g1, 0, none⟩) St.length c1) St.length svs
  eo : W.ownsRow w0.heap.size 3 1 (.slice (some ⟨g2, 0, none⟩) En.length c2) En.length (En.map encE)
  n1 : ¬ F g1 ∧ ¬ Ro g1
  n2 : ¬ F g2 ∧ ¬ Ro g2
  ne : g1 ≠ g2
  lt : g1 < W.heap.size ∧ g2 < W.heap.size
  lo : w0.heap.size ≤ g1 ∧ w0.heap.size ≤ g2
  rd : ∀ (k : Nat) S u, St[k]? = some S → svs[k]? = some u → FilesS W (fun b => ¬ F b ∧ b ≠ g1 ∧ b ≠ g2 ∧ b < W.heap.size) u (filesB S)
section
variable {w0 W W1 : World} {db : Nat} {F Ro F1 Ro1 : Nat → Prop} {hist hist1 : List Raw} {St : List Fs} {En : List Nat} {svs : List Value} {g1 c1 g2 c2 : Nat}
theorem Jr.to (h : Jr w0 W db F Ro hist St En svs g1 c1 g2 c2) (h1 : Dk W1 F1 Ro1 db 400000 hist1) (h2 : ∀ k, F1 k → F k ∨ W.heap.size ≤ k) (h3 : ∀ k, Ro1 k → Ro k ∨ W.heap.size ≤ k) (hc : Chg W W1 F) : Jr w0 W1 db F1 Ro1 hist1 St En svs g1 c1 g2 c2 where
  dk := h1
  low := fun k hk => (h2 k hk).elim (h.low k) (fun e => Nat.le_trans h.bel.size e)
  bel := h.bel.trans (hc.toBelow h.bel.size h.low)
  so := hc.owns h.so (fun k e => by injection e with e; subst e; exact h.n1.1)
  eo := hc.owns h.eo (fun k e => by injection e with e; subst e; exact h.n2.1)
  n1 := ⟨fun e => (h2 _ e).elim h.n1.1 (fun e => by have := h.lt.1; omega), fun e => (h3 _ e).elim h.n1.2 (fun e => by have := h.lt.1; omega)⟩
  n2 := ⟨fun e => (h2 _ e).elim h.n2.1 (fun e => by have := h.lt.2; omega), fun e => (h3 _ e).elim h.n2.2 (fun e => by have := h.lt.2; omega)⟩
  ne := h.ne
  lt := ⟨Nat.lt_of_lt_of_le h.lt.1 hc.size, Nat.lt_of_lt_of_le h.lt.2 hc.size⟩
  lo := h.lo
  rd := fun k S u a b => (h.rd k S u a b).chg hc (fun b hb => ⟨⟨fun hf => (h2 b hf).elim hb.1 (fun e => by have := hb.2.2.2; omega), hb.2.1, hb.2.2.1, Nat.lt_of_lt_of_le hb.2.2.2 hc.size⟩, hb.1⟩)
theorem Jr.call (h : Jr w0 W db F Ro hist St En svs g1 c1 g2 c2) (hd : DkTo W W1 F Ro db 400000 hist1) : ∃ F1 Ro1, Jr w0 W1 db F1 Ro1 hist1 St En svs g1 c1 g2 c2 := by
  obtain ⟨F1, Ro1, h1, h2, h3, hc⟩ := hd
  exact ⟨F1, Ro1, h.to h1 h2 h3 hc⟩
theorem Jr.below (h : Jr w0 W db F Ro hist St En svs g1 c1 g2 c2) (hb : Below W.heap.size W W1) : Jr w0 W1 db F Ro hist St En svs g1 c1 g2 c2 :=
  h.to (h.dk.below hb) (fun _ h => .inl h) (fun _ h => .inl h) (Chg.below hb F)
theorem Jr.row (h : Jr w0 W db F Ro hist St En svs g1 c1 g2 c2) {S : Fs} {v : Value} {g c : Nat} (ho : W1.ownsRow w0.heap.size 39 1 (.slice (some ⟨g, 0, none⟩) (St.length + 1) c) (St.length + 1) (svs ++ [v])) (hg : W.grownBy W1 (some g1)) (hat : some g1 = some g ∨ g = W.heap.size) (hl : g < W1.heap.size)
    (hf : FilesS W (fun b => ¬ F b ∧ b ≠ g1 ∧ b ≠ g2 ∧ b < W.heap.size) v (filesB S)) : Jr w0 W1 db F Ro hist (St ++ [S]) En (svs ++ [v]) g c g2 c2 := by
  have hc := Chg.grown hg
  have hz := hc.size
  have hlv := own_length h.so
  have hne : ∀ b, b < W.heap.size → b ≠ g1 → b ≠ g := fun b hb h1 => by
    rcases hat with e | e
    · injection e with e; subst e; exact h1
    · omega
  have hmv : ∀ u l, FilesS W (fun b => ¬ F b ∧ b ≠ g1 ∧ b ≠ g2 ∧ b < W.heap.size) u l → FilesS W1 (fun b => ¬ F b ∧ b ≠ g ∧ b ≠ g2 ∧ b < W1.heap.size) u l := fun u l hu =>
    hu.chg hc (fun b hb => ⟨⟨hb.1, hne b hb.2.2.2 hb.2.1, hb.2.2.1, Nat.lt_of_lt_of_le hb.2.2.2 hz⟩, fun e => by injection e with e; exact hb.2.1 e⟩)
  have hgF : ¬ F g ∧ ¬ Ro g := by
    rcases hat with e | e
    · injection e with e; subst e; exact h.n1
    · exact ⟨fun hf => by have := h.dk.ltF g hf; omega, fun hf => by have := h.dk.ltR g hf; omega⟩
  exact {
    dk := h.dk.chg hc (fun k hk e => by injection e with e; subst e; exact h.n1.1 hk) (fun k hk e => by injection e with e; subst e; exact h.n1.2 hk)
    low := h.low
    bel := h.bel.trans (hc.toBelow h.bel.size (fun k e => by injection e with e; subst e; exact h.lo.1))
    so := by rw [List.length_append, List.length_singleton]; exact ho
    eo := hc.owns h.eo (fun k e e2 => by injection e with e; subst e; injection e2 with e2; exact h.ne e2.symm)
    n1 := hgF
    n2 := h.n2
    ne := (hne g2 h.lt.2 (fun e => h.ne e.symm)).symm
    lt := ⟨hl, Nat.lt_of_lt_of_le h.lt.2 hz⟩
    lo := ⟨by
      rcases hat with e | e
      · injection e with e; subst e; exact h.lo.1
      · rw [e]; exact h.bel.size, h.lo.2⟩
    rd := fun k T u a b => by
      by_cases hk : k < St.length
      · rw [List.getElem?_append_left hk] at a
        rw [List.getElem?_append_left (by omega)] at b
        exact hmv _ _ (h.rd k T u a b)
      · have hk2 := (List.getElem?_eq_some_iff.1 a).1
        rw [List.length_append, List.length_singleton] at hk2
        obtain rfl : k = St.length := by omega
        rw [List.getElem?_append_right (Nat.le_refl _), Nat.sub_self] at a
        rw [List.getElem?_append_right (by omega), hlv, Nat.sub_self] at b
        injection a with a
        injection b with b
        subst a b
        exact hmv _ _ hf }
theorem Jr.ends (h : Jr w0 W db F Ro hist St En svs g1 c1 g2 c2) {e : Nat} {g c : Nat} (ho : W1.ownsRow w0.heap.size 3 1 (.slice (some ⟨g, 0, none⟩) (En.length + 1) c) (En.length + 1) (En.map encE ++ [encE e])) (hg : W.grownBy W1 (some g2)) (hat : some g2 = some g ∨ g = W.heap.size) (hl : g < W1.heap.size) :
    Jr w0 W1 db F Ro hist St (En ++ [e]) svs g1 c1 g c := by
  have hc := Chg.grown hg
  have hz := hc.size
  have hne : ∀ b, b < W.heap.size → b ≠ g2 → b ≠ g := fun b hb h1 => by
    rcases hat with e | e
    · injection e with e; subst e; exact h1
    · omega
  have hgF : ¬ F g ∧ ¬ Ro g := by
    rcases hat with e | e
    · injection e with e; subst e; exact h.n2
    · exact ⟨fun hf => by have := h.dk.ltF g hf; omega, fun hf => by have := h.dk.ltR g hf; omega⟩
  exact {
    dk := h.dk.chg hc (fun k hk e => by injection e with e; subst e; exact h.n2.1 hk) (fun k hk e => by injection e with e; subst e; exact h.n2.2 hk)
    low := h.low
    bel := h.bel.trans (hc.toBelow h.bel.size (fun k e => by injection e with e; subst e; exact h.lo.2))
    so := hc.owns h.so (fun k e e2 => by injection e with e; subst e; injection e2 with e2; exact h.ne e2)
    eo := by rw [List.length_append, List.length_singleton, List.map_append]; exact ho
    n1 := h.n1
    n2 := hgF
    ne := hne g1 h.lt.1 h.ne
    lt := ⟨Nat.lt_of_lt_of_le h.lt.1 hz, hl⟩
    lo := ⟨h.lo.1, by
      rcases hat with e | e
      · injection e with e; subst e; exact h.lo.2
      · rw [e]; exact h.bel.size⟩
    rd := fun k T u a b => (h.rd k T u a b).chg hc (fun b hb => ⟨⟨hb.1, hb.2.1, hne b hb.2.2.2 hb.2.2.1, Nat.lt_of_lt_of_le hb.2.2.2 hz⟩, fun e => by injection e with e; exact hb.2.2.1 e⟩) }
theorem open_rec {size : Nat} (hsz : size = 400000) (h : Dk W F Ro db size hist) {n : Nat} {S : Fs} (hr : Rec 400000 n S (runR hist)) (hn : n < 98) (hh : hist.length ≤ 190000) :
    Calls Tryz.prog 7 #[.pointer (some ⟨db, 0, none⟩)] W fun e w' => e = .returned (.tuple #[.int .u64 (n : Int), .int .i64 0]) ∧ ∃ h', DkTo W w' F Ro db 400000 h' ∧ Clean n S (runR h') ∧ hist.length ≤ h'.length ∧ h'.length ≤ hist.length + 50010 ∧ ∀ k, hist.length ≤ k → k ≤ h'.length → Rec 400000 n S (runR (h'.take k)) := by
  subst hsz
  obtain ⟨h', e1, e2, h3, h4, h5, h6⟩ := open_plain hr hn
  have hc := rec_cost hr hn
  have ho := open_any h (rec_kinds hr hn) hh (by omega) (by omega)
  rw [e1, e2] at ho
  refine ho.mono ?_
  rintro e w' ⟨rfl, hd⟩
  exact ⟨rfl, h', hd, h3, h4, h5, h6⟩
end
end Go.Proofs.YtmldpehkacemfaaGreatDoor
