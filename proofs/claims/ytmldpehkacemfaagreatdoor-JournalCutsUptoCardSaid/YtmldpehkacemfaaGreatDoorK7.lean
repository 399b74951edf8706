/-
  What the chapter's laws share, part 7: plain facts, memory, and walks of functions. Its conditions: those that each theorem names.
-/
import Derived.Test.YtmldpehkacemfaaGreatDoorK6
set_option linter.unusedSimpArgs false
set_option linter.unusedVariables false
namespace Go.Proofs.YtmldpehkacemfaaGreatDoor
open Go.RowKit Go.Bd
theorem one_row (w : World) (τ : TypeId) (u : Value) (B : Nat) (hB : B ≤ w.heap.size) : (w.alloc (.cells #[u] τ)).ownsRow B τ 1 (.slice (some ⟨w.heap.size, 0, none⟩) 1 1) 1 [u] := by
  refine ⟨rfl, .inr ⟨w.heap.size, 1, #[u], rfl, hB, ?_, Nat.le_refl _, by simp [maxLen], rfl, rfl⟩⟩
  exact Holds.new w τ #[u]
theorem Jr.start {w0 w3 : World} {F3 Ro3 : Nat → Prop} {db : Nat} (hd : Dk w3 F3 Ro3 db 400000 []) (hf : ∀ k, F3 k → w0.heap.size ≤ k) (hb : Below w0.heap.size w0 w3) : Jr w0 ((w3.alloc (.cells #[.slice none 0 0] 39)).alloc (.cells #[.int .i64 0] 3)) db F3 Ro3 [] [[]] [0] [.slice none 0 0] w3.heap.size 1 (w3.heap.size + 1) 1 := by
  have h1 := (Below.refl w3.heap.size w3).alloc (Nat.le_refl _) (.cells #[.slice none 0 0] 39)
  have h2 := h1.alloc (by simp) (.cells #[.int .i64 0] 3)
  have e1 : (w3.alloc (.cells #[.slice none 0 0] 39)).heap.size = w3.heap.size + 1 := by simp
  have e2 : ((w3.alloc (.cells #[.slice none 0 0] 39)).alloc (.cells #[.int .i64 0] 3)).heap.size = w3.heap.size + 2 := by simp
  have r1 := (one_row w3 39 (.slice none 0 0) w0.heap.size hb.size).alloc (.cells #[.int .i64 0] 3)
  have r2 := one_row (w3.alloc (.cells #[.slice none 0 0] 39)) 3 (.int .i64 0) w0.heap.size (by rw [e1]; have := hb.size; omega)
  rw [e1] at r2
  have hz := hb.size
  exact {
    dk := hd.below h2
    low := hf
    bel := hb.trans (h2.mono hz)
    so := r1
    eo := r2
    n1 := ⟨fun h => by have := hd.ltF _ h; omega, fun h => by have := hd.ltR _ h; omega⟩
    n2 := ⟨fun h => by have := hd.ltF _ h; omega, fun h => by have := hd.ltR _ h; omega⟩
    ne := by omega
    lt := ⟨by omega, by omega⟩
    lo := ⟨by omega, by omega⟩
    rd := fun k S u a b => by
      match k, a, b with
      | 0, a, b =>
        injection a with a
        injection b with b
        subst a b
        rw [show filesB [] = [] by rw [filesB_eq]; simp [namesB]]
        exact FilesS.none _ _ }
theorem cut_ok {w : World} {F Ro : Nat → Prop} {db size : Nat} {hist : List Raw} (h : Dk w F Ro db size hist) (m : Nat) (L : Int) (hL : L = (m : Int)) (hm : m ≤ hist.length) (hh : hist.length + 2 ≤ 900000) (hsz : size ≤ 8388608) :
    Calls Tryz.prog 11 #[.pointer (some ⟨db, 0, none⟩), .int .i64 L] w fun e w' =>
      ∃ ndb, e = .returned (.tuple #[.pointer (some ⟨ndb, 0, none⟩), .int .i64 0]) ∧ Dk w' (fun k => w.heap.size ≤ k ∧ k < w'.heap.size) Ro ndb size (hist.take m) ∧ Below w.heap.size w w' := by
  subst hL
  refine (cut_dk h m hh hsz).mono ?_
  intro e w' hp
  rw [if_neg (by omega)] at hp
  simpa using hp
theorem files_len {w : World} {F Ro : Nat → Prop} {db size n : Nat} {hist : List Raw} {S : Fs} (h : Dk w F Ro db size hist) (hc : Clean n S (runR hist)) (hS : Mine S) (hh : hist.length ≤ 900000) : (filesB S).length ≤ 1000000 := by
  have h1 : (namesB (runR hist)).length ≤ 900000 := by have := h.len_le; omega
  rw [← filesB_clean hc hS, filesB_eq, List.length_map]
  exact Nat.le_trans (List.length_filter_le _ _) (by omega)
theorem code_of {w w' : World} {F Ro : Nat → Prop} {db size : Nat} {hist : List Raw} {n : Nat} {wr0 : List (ByteArray × Bs)} {rm : List ByteArray} {code : Int} (h : ChOut w w' F Ro db size hist n wr0 rm code) : ((code = 1 ∨ code = 6) ∧ DkTo w w' F Ro db size hist) ∨ (code = 0 ∧ ∃ l y, l.Perm wr0 ∧ RoomP (runR hist) size n ⟨rm, l⟩ (⟨rm, l⟩ : Plan).log.length ∧ Allow (runR hist) (wr0.map (·.1)) rm ∧ y.length ≤ (⟨rm, l⟩ : Plan).log.length + textsN l ∧ DkTo w w' F Ro db size (runO size (changeO ⟨rm, l⟩ n (runR hist) y) hist)) := by
  cases h with
  | arg h hd => exact .inl ⟨.inl rfl, hd⟩
  | full l hp h ha hd => exact .inl ⟨.inr rfl, hd⟩
  | ok l hp h ha z hz hd => exact .inr ⟨rfl, l, z, hp, h, ha, hz, hd⟩
set_option maxRecDepth 100000 in
set_option maxHeartbeats 8000000 in
theorem journalCuts_true (v : Value) (l : List ActJ) (at1 again : Nat) (w : World) (h : ActsS w (fun k => k < w.heap.size) v l) (hl : l.length ≤ 1000000) (hz : actsZ l ≤ 100000000) (hea : ∀ a ∈ l, filesZ a.wr ≤ 1048576 ∧ textsZ a.rm ≤ 1048576) (ha : at1 < 65536) (hb : again < 65536) :
    Calls Tryz.prog 3 #[.agg #[v, .int .u16 (at1 : Int), .int .u16 (again : Int)]] w fun e w' => e = .returned (.bool true) ∧ Below w.heap.size w w' := by
  have hgr := fun W (hB : Below w.heap.size w W) => great_any (w := W) (S := fun k => k < w.heap.size) (v := v) (l := l) (by
    obtain ⟨A, c, e, h1, h2⟩ := h
    refine ⟨A, c, e, h1, fun j a hj => ?_⟩
    obtain ⟨b, off, wv, rv, e1, e2, e3, e4, e5, e6⟩ := h2 j a hj
    exact ⟨b, off, wv, rv, e1, e2, (hB.cell (p := ⟨b, off + j * 2, none⟩) e2).trans e3, (hB.cell (p := ⟨b, off + j * 2 + 1, none⟩) e2).trans e4, e5.chg (Chg.below (hB.mono (Nat.le_refl _)) (fun _ => False)) (fun k hk => ⟨hk, fun h => h⟩), e6.chg (Chg.below hB (fun _ => False)) (fun k hk => ⟨hk, fun h => h⟩)⟩) hl hz hea (fun k hk => Nat.lt_of_lt_of_le hk hB.size)
  obtain ⟨A, c, rfl, hc, k1⟩ := h
  have H1 := Lib.hid k1
  have HG := Lib.hid hgr
  obtain ⟨m, hm⟩ : ∃ m, l.length = m := ⟨_, rfl⟩
  have HM := Lib.hid hm
  have HX := Lib.hid hea
  have hb0 := (Below.refl w.heap.size w).alloc (Nat.le_refl _) (.cells #[.slice A m c, .int .u16 (at1 : Int), .int .u16 (again : Int)] 25)
  have hn0 := Holds.new w 25 #[.slice A m c, .int .u16 (at1 : Int), .int .u16 (again : Int)]
  obtain ⟨xb, hxb⟩ : ∃ xb, w.heap.size = xb := ⟨_, rfl⟩
  have hz0 : (w.alloc (.cells #[.slice A m c, .int .u16 (at1 : Int), .int .u16 (again : Int)] 25)).heap.size = w.heap.size + 1 := by simp
  have HW0 := Lib.hid hz0
  have hg1 := HG.out _ hb0
  have HB0 := Lib.hid hb0
  rw [hm] at hg1 hl hc ⊢
  have HN0 := Lib.hid hn0
  clear k1 hgr hea hm hb0 hn0 hz0
  cases hgt : greatJ l with
  | true =>
    rw [hgt] at hg1
    go_enter Tryz.func3, Tryz.ntmps3
    go_wp2_with fail
    refine hg1.mono ?_
    clear hg1
    rintro e w1 ⟨rfl, hb1⟩
    have B1 := Lib.hid hb1
    clear hb1
    go_wp2_with (go_at_call 5; refine (lives_any _).mono ?_; rintro e w2 ⟨rfl, hb2⟩)
    go_ret
    have b1 := HB0.out.trans (B1.out.mono HB0.out.size)
    exact ⟨rfl, b1.trans (hb2.mono b1.size)⟩
  | false =>
    rw [hgt] at hg1
    have hlz : m ≤ 40 ∧ actsZ l ≤ 40000 := by
      unfold greatJ at hgt
      rw [HM.out] at hgt
      simp at hgt
      omega
    go_enter Tryz.func3, Tryz.ntmps3
    go_wp2_with fail
    refine hg1.mono ?_
    clear hg1
    rintro e w1 ⟨rfl, hb1⟩
    have hn1 := holds_later HN0.out hb1
    rw [HW0.out] at hb1
    have x0 := hn1.cell 0
    have x1 := hn1.cell 1
    have x2 := hn1.cell 2
    simp at x0 x1 x2
    clear hn1
    have hxl : xb < w1.heap.size := by
      have := hb1.size
      rw [HW0.out] at this
      omega
    rw [hxb] at x0 x1 x2
    have B1 := Lib.hid (HB0.out.trans (hb1.mono (by omega)))
    clear hb1 hgt
    have XC := Lib.hid (And.intro x0 (And.intro x1 x2))
    go_wp2_with fail
    refine (new_dk 400000 (by omega) _).mono ?_
    rintro e w2 ⟨db, rfl, hd2, hb2⟩
    have ho2 := open_clean hd2 clean_nil mine_nil (by omega) (by simp) (by omega)
    have H2 := Lib.hid (And.intro hd2 hb2)
    clear hd2 hb2
    go_wp2_with fail
    refine ho2.mono ?_
    clear ho2
    rintro e w3 ⟨rfl, F3, Ro3, hd3, hF3, hR3, hc3⟩
    have hf3 : ∀ k, F3 k → w1.heap.size ≤ k := fun k hk => (hF3 k hk).elim (fun h => h.1) (fun h => by have := H2.out.2.size; omega)
    have hb3 := H2.out.2.trans (hc3.toBelow H2.out.2.size (fun k hk => hk.1))
    have hw3 := writes_dk hd3
    have H3 := Lib.hid (And.intro hd3 (And.intro hf3 hb3))
    clear hd3 hF3 hR3 hc3 hf3 hb3 H2
    go_wp2_with fail
    refine hw3.mono ?_
    clear hw3
    rintro e wz ⟨rfl, hwz⟩
    subst wz
    go_wp2_with fail
    have hJ0 := Jr.start H3.out.1 H3.out.2.1 H3.out.2.2
    have HJ0 := Lib.hid hJ0
    have HT := Lib.hid (fun k => take_sum_le (l.map fun a => 1 + filesZ a.wr + textsZ a.rm) k)
    have hw1 : w.heap.size ≤ w1.heap.size := B1.out.size
    have HZ := Lib.hid hxb
    clear H3 hJ0 x0 x1 x2 hxb
    go_loopg [8, 9, 10] m (fun q sv ev iv wr => ∃ (k : Nat) (St : List Fs) (En : List Nat) (g1 c1 g2 c2 : Nat), k + q = m ∧ sv = .slice (some ⟨g1, 0, none⟩) St.length c1 ∧ ev = .slice (some ⟨g2, 0, none⟩) En.length c2 ∧ iv = .int .i64 (k : Int) ∧ St.length ≤ k + 1 ∧ En.length ≤ k + 1 ∧ Hid (En.length = St.length) ∧ St.length ≤ c1 ∧ En.length ≤ c2 ∧ Hid (∃ F Ro hist svs, Jr w1 wr db F Ro hist St En svs g1 c1 g2 c2 ∧ Lf (actsZ (l.take k)) k St En hist))
    case atStart => exact ⟨0, [[]], [0], w3.heap.size, 1, w3.heap.size + 1, 1, by omega, rfl, rfl, rfl, by simp, by simp, Lib.hid rfl, by simp, by simp, Lib.hid ⟨_, _, [], _, HJ0.out, Lf.first⟩⟩
    case round =>
      obtain ⟨k, St, En, g1, c1, g2, c2, hk, rfl, rfl, rfl, hsl, hel0, hel, hc1, hc2, HR⟩ := hrel
      obtain ⟨F, Ro, hist, svs, hJ, hL⟩ := HR.out
      have y0 := (hJ.bel.cell (p := ⟨xb, 0, none⟩) hxl).trans XC.out.1
      clear HJ0
      by_cases hlt : k < m
      · obtain ⟨a, ha⟩ : ∃ a, l[k]? = some a := ⟨_, List.getElem?_eq_getElem (by rw [HM.out]; exact hlt)⟩
        obtain ⟨b, off, wv, rv, rfl, hbl, z1, z2, hfw, htr⟩ := H1.out k a ha
        have y1 := (hJ.bel.cell (p := ⟨b, off + k * 2, none⟩) (Nat.lt_of_lt_of_le hbl hw1)).trans ((B1.out.cell (p := ⟨b, off + k * 2, none⟩) hbl).trans z1)
        have y2 := (hJ.bel.cell (p := ⟨b, off + k * 2 + 1, none⟩) (Nat.lt_of_lt_of_le hbl hw1)).trans ((B1.out.cell (p := ⟨b, off + k * 2 + 1, none⟩) hbl).trans z2)
        have HCH : Hid (∀ W, Below wr.heap.size wr W → Calls Tryz.prog 9 #[.pointer (some ⟨db, 0, none⟩), wv, rv] W fun e w' => ∃ code, e = .returned (.int .i64 code) ∧ Below w1.heap.size w1 w' ∧
            Hid (((code = 1 ∨ code = 6) ∧ Lf (actsZ (l.take (k + 1))) (k + 1) St En hist ∧ ∃ F1 Ro1, Jr w1 w' db F1 Ro1 hist St En svs g1 c1 g2 c2) ∨ (code = 0 ∧ ∃ S' hist', Mine S' ∧ Clean St.length S' (runR hist') ∧ Lf (actsZ (l.take (k + 1))) (k + 1) (St ++ [S']) (En ++ [hist'.length]) hist' ∧ ∃ F1 Ro1, Jr w1 w' db F1 Ro1 hist' St En svs g1 c1 g2 c2))) := Lib.hid (fun W hB => by
          obtain ⟨S, hS, hmS, hcS⟩ := hL.last
          have hz1 := actsZ_take ha
          have hz2 := HT.out (k + 1)
          rw [← List.map_take] at hz2
          have hz3 : actsZ (l.take (k + 1)) ≤ 40000 := Nat.le_trans hz2 hlz.2
          have hbw : Below w.heap.size w W := (B1.out.trans (hJ.bel.mono hw1)).trans (hB.mono (Nat.le_trans hw1 hJ.bel.size))
          have hFl := fun q (hq : F q) => Nat.le_trans hw1 (hJ.low q hq)
          have hpos := hL.life.pos
          have hwe := weigh_eq (rm := a.rm) (List.Perm.refl a.wr)
          have hhl := hL.hl
          refine (change_any (hJ.dk.below hB) hcS hmS (by omega) a.wr a.rm wv rv (hfw.chg (Chg.below hbw (fun _ => False)) (fun q hq => ⟨⟨Nat.lt_of_lt_of_le hq hbw.size, fun h => by have := hFl q h; omega⟩, fun h => h⟩)) (htr.chg (Chg.below hbw (fun _ => False)) (fun q hq => ⟨⟨Nat.lt_of_lt_of_le hq hbw.size, fun h => by have := hFl q h; omega⟩, fun h => h⟩)) (by omega) (by omega) (by omega)).mono ?_
          rintro e w' ⟨code, rfl, ho⟩
          rcases code_of ho with ⟨hc, hd⟩ | ⟨rfl, l', y, hp, hr, hal, hy, hd⟩
          · obtain ⟨F1, Ro1, hJ1⟩ := hJ.call (hd.first hB)
            exact ⟨code, rfl, hJ1.bel, Lib.hid (.inl ⟨hc, hL.same (by omega), F1, Ro1, hJ1⟩)⟩
          · obtain ⟨F1, Ro1, hJ1⟩ := hJ.call (hd.first hB)
            have hL2 := hL.done (by omega) hS hp (z' := actsZ (l.take (k + 1))) (by omega) hz3 hr hal y hy
            obtain ⟨S2, q1, q2, q3⟩ := hL2.last
            rw [List.length_append, List.length_singleton, Nat.add_sub_cancel] at q1 q3
            rw [List.getElem?_append_right (Nat.le_refl _), Nat.sub_self] at q1
            injection q1 with q1
            subst q1
            exact ⟨0, rfl, hJ1.bel, Lib.hid (.inr ⟨rfl, _, _, q2, q3, hL2, F1, Ro1, hJ1⟩)⟩)
        obtain ⟨wA, wc, rfl, _⟩ := hfw
        obtain ⟨rA, rc, rfl, _⟩ := htr
        have d0 : 0 ≤ (k : Int) ∧ (k : Int) < (m : Int) := by omega
        have HY := Lib.hid (And.intro y0 (And.intro y1 y2))
        have HBL := Lib.hid (And.intro hbl (And.intro z1 z2))
        clear hJ hL HR z1 z2 ha hbl
        go_wp2_with fail
        obtain ⟨wv, hwv⟩ : ∃ x, x = wr := ⟨_, rfl⟩
        subst hwv
        refine wp_region_held_drew (S := (fun w' => w'.cell? ⟨xb, 0, none⟩ = some (.slice (some ⟨b, off, none⟩) m c) ∧ w'.cell? ⟨b, off + k * 2, none⟩ = some (.slice wA a.wr.length wc) ∧ w'.cell? ⟨b, off + k * 2 + 1, none⟩ = some (.slice rA a.rm.length rc))) (by kernel_rfl) ?_ (fun hHeld0 => ?_)
        · (try dsimp only)
          exact ⟨y0, y1, y2⟩
        refine wpAnyH_take (i := 0) (oi := ⟨some 54, _, _, _, _, _⟩) (v := ?_) rfl (by kernel_rfl) (by kernel_rfl) (by kernel_rfl) (fun _ _ _ h => h) (Or.inl ⟨by kernel_rfl, ?_⟩) (by assumption) ?_
        rotate_left
        · (intro w hSw; (try dsimp only at hSw); go_simp; (first | done | with_reducible rfl))
        (try simp only [Act.put, List.setIfInBounds_toArray, List.set_cons_zero, List.set_cons_succ])
        refine wpAnyH_take (i := 1) (oi := ⟨some 55, _, _, _, _, _⟩) (v := ?_) rfl (by kernel_rfl) (by kernel_rfl) (by kernel_rfl) (fun _ _ _ h => h) (Or.inl ⟨by kernel_rfl, ?_⟩) (by assumption) ?_
        rotate_left
        · (intro w hSw; (try dsimp only at hSw); go_simp; (first | done | with_reducible rfl))
        (try simp only [Act.put, List.setIfInBounds_toArray, List.set_cons_zero, List.set_cons_succ])
        refine wpAnyH_take (i := 2) (oi := ⟨some 56, _, _, _, _, _⟩) (v := ?_) rfl (by kernel_rfl) (by kernel_rfl) (by kernel_rfl) (fun _ _ _ h => h) (Or.inl ⟨by kernel_rfl, ?_⟩) (by assumption) ?_
        rotate_left
        · (intro w hSw; (try dsimp only at hSw); go_simp; (first | done | with_reducible rfl))
        (try simp only [Act.put, List.setIfInBounds_toArray, List.set_cons_zero, List.set_cons_succ])
        refine wpAnyH_take (i := 3) (oi := ⟨some 57, _, _, _, _, _⟩) (v := ?_) rfl (by kernel_rfl) (by kernel_rfl) (by kernel_rfl) (fun _ _ _ h => h) (Or.inl ⟨by kernel_rfl, ?_⟩) (by assumption) ?_
        rotate_left
        · (intro w hSw; (try dsimp only at hSw); go_simp; (first | done | with_reducible rfl))
        (try simp only [Act.put, List.setIfInBounds_toArray, List.set_cons_zero, List.set_cons_succ])
        refine wpAnyH_take (i := 4) (oi := ⟨some 58, _, _, _, _, _⟩) (v := ?_) rfl (by kernel_rfl) (by kernel_rfl) (by kernel_rfl) (fun _ _ _ h => h) (Or.inl ⟨by kernel_rfl, ?_⟩) (by assumption) ?_
        rotate_left
        · (intro w hSw; (try dsimp only at hSw); go_simp; (first | done | with_reducible rfl))
        (try simp only [Act.put, List.setIfInBounds_toArray, List.set_cons_zero, List.set_cons_succ])
        refine wpAnyH_take (i := 5) (oi := ⟨some 59, _, _, _, _, _⟩) (v := ?_) rfl (by kernel_rfl) (by kernel_rfl) (by kernel_rfl) (fun _ _ _ h => h) (Or.inl ⟨by kernel_rfl, ?_⟩) (by assumption) ?_
        rotate_left
        · (intro w hSw; (try dsimp only at hSw); go_simp; (first | done | with_reducible rfl))
        (try simp only [Act.put, List.setIfInBounds_toArray, List.set_cons_zero, List.set_cons_succ])
        refine wpAnyH_take (i := 6) (oi := ⟨some 60, _, _, _, _, _⟩) (v := ?_) rfl (by kernel_rfl) (by kernel_rfl) (by kernel_rfl) (fun _ _ _ h => h) (Or.inl ⟨by kernel_rfl, ?_⟩) (by assumption) ?_
        rotate_left
        · (intro w hSw; (try dsimp only at hSw); go_simp; (first | done | with_reducible rfl))
        (try simp only [Act.put, List.setIfInBounds_toArray, List.set_cons_zero, List.set_cons_succ])
        refine wpAnyH_take (i := 7) (oi := ⟨some 61, _, _, _, _, _⟩) (v := ?_) rfl (by kernel_rfl) (by kernel_rfl) (by kernel_rfl) (fun _ _ _ h => h) (Or.inl ⟨by kernel_rfl, ?_⟩) (by assumption) ?_
        rotate_left
        · (intro w hSw; (try dsimp only at hSw); go_simp; (first | done | with_reducible rfl))
        (try simp only [Act.put, List.setIfInBounds_toArray, List.set_cons_zero, List.set_cons_succ])
        refine wpAnyH_take (i := 8) (oi := ⟨some 62, _, _, _, _, _⟩) (v := ?_) rfl (by kernel_rfl) (by kernel_rfl) (by kernel_rfl) (fun _ _ _ h => h) (Or.inl ⟨by kernel_rfl, ?_⟩) (by assumption) ?_
        rotate_left
        · (intro w hSw; (try dsimp only at hSw); go_simp; (first | done | with_reducible rfl))
        (try simp only [Act.put, List.setIfInBounds_toArray, List.set_cons_zero, List.set_cons_succ])
        refine wpAnyH_take (i := 9) (oi := ⟨some 63, _, _, _, _, _⟩) (v := ?_) rfl (by kernel_rfl) (by kernel_rfl) (by kernel_rfl) (fun _ _ _ h => h) (Or.inl ⟨by kernel_rfl, ?_⟩) (by assumption) ?_
        rotate_left
        · (intro w hSw; (try dsimp only at hSw); go_simp; (first | done | with_reducible rfl))
        (try simp only [Act.put, List.setIfInBounds_toArray, List.set_cons_zero, List.set_cons_succ])
        refine wpAnyH_take (i := 10) (oi := ⟨some 64, _, _, _, _, _⟩) (v := ?_) rfl (by kernel_rfl) (by kernel_rfl) (by kernel_rfl) (fun _ _ _ h => h) (Or.inl ⟨by kernel_rfl, ?_⟩) (by assumption) ?_
        rotate_left
        · (intro w hSw; (try dsimp only at hSw); go_simp; (first | done | with_reducible rfl))
        (try simp only [Act.put, List.setIfInBounds_toArray, List.set_cons_zero, List.set_cons_succ])
        refine wpAnyH_take (i := 11) (oi := ⟨some 65, _, _, _, _, _⟩) (v := ?_) rfl (by kernel_rfl) (by kernel_rfl) (by kernel_rfl) (fun _ _ _ h => h) (Or.inl ⟨by kernel_rfl, ?_⟩) (by assumption) ?_
        rotate_left
        · (intro w hSw; (try dsimp only at hSw); go_simp; (first | done | with_reducible rfl))
        (try simp only [Act.put, List.setIfInBounds_toArray, List.set_cons_zero, List.set_cons_succ])
        refine wpAnyH_take (i := 12) (oi := ⟨some 66, _, _, _, _, _⟩) (v := ?_) rfl (by kernel_rfl) (by kernel_rfl) (by kernel_rfl) (fun _ _ _ h => h) (Or.inl ⟨by kernel_rfl, ?_⟩) (by assumption) ?_
        rotate_left
        · (intro w hSw; (try dsimp only at hSw); go_simp; (first | done | with_reducible rfl))
        (try simp only [Act.put, List.setIfInBounds_toArray, List.set_cons_zero, List.set_cons_succ])
        refine wpAnyH_ready (rs := [13]) (by kernel_rfl) (by simp) ?_
        refine AllReadyH.cons (o := ⟨some 67, _, _, _, _, _⟩) rfl (fun K hK => ?_) AllReadyH.nil
        go_simp
        first
        | refine (HCH.out _ (Below.refl _ _)).mono ?_
        | refine (HCH.out _ (Below.refl _ _).drew).mono ?_
        rintro e wz ⟨code, rfl, hbz, HP⟩
        replace y0 := (hbz.cell (p := ⟨xb, 0, none⟩) hxl).trans XC.out.1
        replace y1 := (hbz.cell (p := ⟨b, off + k * 2, none⟩) (Nat.lt_of_lt_of_le HBL.out.1 hw1)).trans ((B1.out.cell (p := ⟨b, off + k * 2, none⟩) HBL.out.1).trans HBL.out.2.1)
        replace y2 := (hbz.cell (p := ⟨b, off + k * 2 + 1, none⟩) (Nat.lt_of_lt_of_le HBL.out.1 hw1)).trans ((B1.out.cell (p := ⟨b, off + k * 2 + 1, none⟩) HBL.out.1).trans HBL.out.2.2)
        clear hbz
        refine hK.out _ _ ?_ (fun hHeld1 => ?_)
        · (try dsimp only)
          exact ⟨y0, y1, y2⟩
        clear hK K hHeld0
        (try simp only [Act.put, List.setIfInBounds_toArray, List.set_cons_zero, List.set_cons_succ])
        refine wpAnyH_take (i := 14) (oi := ⟨some 68, _, _, _, _, _⟩) (v := ?_) rfl (by kernel_rfl) (by kernel_rfl) (by kernel_rfl) (fun _ _ _ h => h) (Or.inl ⟨by kernel_rfl, ?_⟩) (by assumption) ?_
        rotate_left
        · (intro w hSw; (try dsimp only at hSw); go_simp; (first | done | with_reducible rfl))
        (try simp only [Act.put, List.setIfInBounds_toArray, List.set_cons_zero, List.set_cons_succ])
        refine wpAnyH_done (by kernel_rfl) ?_ _
        rcases HP.out with ⟨hco, hL1, F1, Ro1, hJ1⟩ | ⟨rfl, S', hist', hmS, hcS, hL1, F1, Ro1, hJ1⟩
        · have HE := Lib.hid (And.intro hL1 hJ1)
          clear hL1 hJ1 HCH HP
          rcases hco with rfl | rfl
          all_goals
            go_wp2_with fail
            go_roundg (gk - 1)
            case measure => omega
            case rel => exact ⟨k + 1, St, En, g1, c1, g2, c2, by omega, rfl, rfl, by go_num, by omega, by omega, hel, hc1, hc2, Lib.hid ⟨F1, Ro1, hist, svs, by first | exact HE.out.2 | exact HE.out.2.below (Below.refl _ _).drew, HE.out.1⟩⟩
        · have hhl := hL1.hl
          have hlen := hL1.len
          rw [List.length_append, List.length_singleton] at hlen
          have hz3 : actsZ (l.take (k + 1)) ≤ 40000 := Nat.le_trans (by
            have hz2 := HT.out (k + 1)
            rw [← List.map_take] at hz2
            exact hz2) hlz.2
          have HFI : Hid (∀ W, Below wz.heap.size wz W → Calls Tryz.prog 10 #[.pointer (some ⟨db, 0, none⟩)] W fun e w' => ∃ A5 l5 c5, e = .returned (.tuple #[.slice A5 l5 c5, .int .i64 0]) ∧ Hid (Jr w1 w' db F1 Ro1 hist' St En svs g1 c1 g2 c2 ∧ FilesS w' (fun b => ¬ F1 b ∧ b ≠ g1 ∧ b ≠ g2 ∧ b < w'.heap.size) (.slice A5 l5 c5) (filesB S'))) := Lib.hid (fun W hB => by
            have hJ2 := hJ1.below hB
            refine (files_clean hJ2.dk hcS hmS (by omega) (by omega)).mono ?_
            rintro e w' ⟨v, rfl, ho5, hb5⟩
            have hf5 := FilesS.own ho5 rfl
            have hJ3 := hJ2.below hb5
            have hf6 := hf5.chg (S' := fun b => ¬ F1 b ∧ b ≠ g1 ∧ b ≠ g2 ∧ b < w'.heap.size) (Chg.refl w' (fun _ => False)) (fun q hq => ⟨⟨fun hf => by have := hJ2.dk.ltF q hf; omega, fun e => by have := hJ2.lt.1; omega, fun e => by have := hJ2.lt.2; omega, hq.2⟩, fun h => h⟩)
            obtain ⟨A5, c5, rfl, _⟩ := own_slice2 ho5
            exact ⟨A5, _, c5, rfl, Lib.hid ⟨hJ3, hf6⟩⟩)
          have HE := Lib.hid (And.intro hL1 (And.intro hmS hcS))
          clear hL1 hJ1 HCH HP hmS hcS
          go_wp2_with fail
          first
          | refine (HFI.out _ (Below.refl _ _)).mono ?_
          | refine (HFI.out _ (Below.refl _ _).drew).mono ?_
          rintro e w5 ⟨A5, l5, c5, rfl, H5⟩
          obtain ⟨i0, hi0, hz0, hz1, hz2⟩ := info_parts rows_info
          have hba := (Below.refl w5.heap.size w5).alloc (Nat.le_refl _) (.cells #[.slice A5 l5 c5] 39)
          have hJ6 := H5.out.1.below hba
          have hf6 := H5.out.2.chg (S' := fun b => ¬ F1 b ∧ b ≠ g1 ∧ b ≠ g2 ∧ b < (w5.alloc (.cells #[.slice A5 l5 c5] 39)).heap.size) (Chg.below hba (fun _ => False)) (fun q hq => ⟨⟨hq.1, hq.2.1, hq.2.2.1, Nat.lt_of_lt_of_le hq.2.2.2 hba.size⟩, fun h => h⟩)
          have hbw := hJ6.bel.size
          have hso := hJ6.so
          have HJ6 := Lib.hid (And.intro hJ6 hf6)
          clear hba hJ6 hf6 HFI
          go_wp2_with (at_builtin; refine wpList_append_lies _ rfl _ _ 36 rfl w1.heap.size 39 i0 _ 1 24 under_rows hi0 hz0 hz1 hz2 rfl (by omega) _ St.length svs rfl hso ⟨w5.heap.size, 0, none⟩ 1 1 [.slice A5 l5 c5] rfl rfl (World.news_of_block (cs := #[.slice A5 l5 c5]) (t := 39) (fr := (0, 0)) (Holds.new _ _ _)) (by simp [Value.oneCell']) (by omega) (by unfold maxLen; omega) (by omega) hbw _ rfl ?_)
          intro g3 c3 w7 ho7 hg7 hat7 hl7
          have hJ7 := HJ6.out.1.row ho7 hg7 (hat7.imp (fun e => e) (fun e => by simpa using e)) hl7 HJ6.out.2
          have hw7 := writes_dk hJ7.dk
          have hc3 : St.length + 1 ≤ c3 := by
            obtain ⟨_, _, e7, h7⟩ := own_slice2 ho7
            injection e7 with _ _ e7
            rw [e7]; exact h7
          have HJ7 := Lib.hid hJ7
          clear hso hbw ho7 hg7 hat7 hl7 hJ7
          go_wp2_with fail
          refine hw7.mono ?_
          clear hw7
          rintro e wy ⟨rfl, hwy⟩
          subst wy
          obtain ⟨i1, hi1, hy0, hy1, hy2⟩ := info_parts ints_info
          have hba := (Below.refl w7.heap.size w7).alloc (Nat.le_refl _) (.cells #[.int .i64 (hist'.length : Int)] 3)
          have hJ8 := HJ7.out.below hba
          have hbw := hJ8.bel.size
          have heo := hJ8.eo
          have HJ8 := Lib.hid hJ8
          have hc2' := hc2
          clear hba hJ8 HJ7
          go_wp2_with (at_builtin; refine wpList_append_lies _ rfl _ _ 37 rfl w1.heap.size 3 i1 _ 1 8 under_intsJ hi1 hy0 hy1 hy2 rfl (by omega) _ En.length (En.map encE) rfl heo ⟨w7.heap.size, 0, none⟩ 1 1 [.int .i64 (hist'.length : Int)] rfl rfl (World.news_of_block (cs := #[.int .i64 (hist'.length : Int)]) (t := 3) (fr := (0, 0)) (Holds.new _ _ _)) (by simp [Value.oneCell']) (by omega) (by unfold maxLen; omega) (by omega) hbw _ rfl ?_)
          intro g4 c4 w9 ho9 hg9 hat9 hl9
          have hJ9 := HJ8.out.ends ho9 hg9 (hat9.imp (fun e => e) (fun e => by simpa using e)) hl9
          have hc4 : En.length + 1 ≤ c4 := by
            obtain ⟨_, _, e9, h9⟩ := own_slice2 ho9
            injection e9 with _ _ e9
            rw [e9]; exact h9
          have HJ9 := Lib.hid hJ9
          clear heo hbw ho9 hg9 hat9 hl9 hJ9
          go_wp2_with fail
          go_roundg (gk - 1)
          case measure => omega
          case rel =>
            have es : (St ++ [S']).length = St.length + 1 := by simp
            have ee : (En ++ [hist'.length]).length = En.length + 1 := by simp
            exact ⟨k + 1, St ++ [S'], En ++ [hist'.length], g3, c3, g4, c4, by omega, by rw [es], by rw [ee], by go_num, by omega, by omega, Lib.hid (by rw [es, ee, hel.out]), by rw [es]; exact hc3, by rw [ee]; exact hc4, Lib.hid ⟨F1, Ro1, hist', _, HJ9.out, HE.out.1⟩⟩
      · obtain rfl : k = m := by omega
        rw [List.take_of_length_le (by rw [HM.out]; exact Nat.le_refl _)] at hL
        have y1 := (hJ.bel.cell (p := ⟨xb, 1, none⟩) hxl).trans XC.out.2.1
        have y2 := (hJ.bel.cell (p := ⟨xb, 2, none⟩) hxl).trans XC.out.2.2
        have hbw := B1.out.trans (hJ.bel.mono hw1)
        have hwd := writes_dk hJ.dk
        have hwd2 := writes_dk (hJ.dk.below (Below.refl _ _).drew)
        have hhl : hist.length ≤ 83146 := by have := hL.hl; omega
        have HE := Lib.hid (And.intro hJ hL)
        have HB := Lib.hid hbw
        obtain ⟨hn, hhn⟩ : ∃ hn, hist.length = hn := ⟨_, rfl⟩
        rw [hhn] at hwd hwd2 hhl
        have HHN := Lib.hid hhn
        obtain ⟨k1, hk1, hk1l⟩ : ∃ k1 : Nat, (at1 : Int) % ((hn : Int) + 1) = (k1 : Int) ∧ k1 ≤ hn := ⟨at1 % (hn + 1), by push_cast; rfl, Nat.le_of_lt_succ (Nat.mod_lt _ (Nat.succ_pos _))⟩
        have e1 : IntKind.i64.wrap (at1 : Int) = (at1 : Int) := wrap_i64n (by omega) (by omega)
        have e2 : IntKind.i64.wrap (hn : Int) = (hn : Int) := wrap_i64n (by omega) (by omega)
        have e3 : IntKind.i64.wrap ((hn : Int) + 1) = (hn : Int) + 1 := wrap_i64n (by omega) (by omega)
        have e4 : IntKind.i64.wrap (k1 : Int) = (k1 : Int) := wrap_i64n (by omega) (by omega)
        have e5 : ¬ ((hn : Int) + 1 = 0) := by omega
        clear hJ hL hbw HR hhn H1
        go_wp2_with fail
        obtain ⟨wv, hwv⟩ : ∃ x, x = wr := ⟨_, rfl⟩
        subst hwv
        refine wp_region_held_drew (S := (fun w' => w'.cell? ⟨xb, 1, none⟩ = some (.int .u16 (at1 : Int)))) (by kernel_rfl) ?_ (fun hHeld0 => ?_)
        · (try dsimp only)
          exact y1
        refine wpAnyH_take (i := 0) (oi := ⟨some 83, _, _, _, _, _⟩) (v := ?_) rfl (by kernel_rfl) (by kernel_rfl) (by kernel_rfl) (fun _ _ _ h => h) (Or.inl ⟨by kernel_rfl, ?_⟩) (by assumption) ?_
        rotate_left
        · (intro w hSw; (try dsimp only at hSw); go_simp; (first | done | with_reducible rfl))
        (try simp only [Act.put, List.setIfInBounds_toArray, List.set_cons_zero, List.set_cons_succ])
        refine wpAnyH_take (i := 1) (oi := ⟨some 84, _, _, _, _, _⟩) (v := ?_) rfl (by kernel_rfl) (by kernel_rfl) (by kernel_rfl) (fun _ _ _ h => h) (Or.inl ⟨by kernel_rfl, ?_⟩) (by assumption) ?_
        rotate_left
        · (intro w hSw; (try dsimp only at hSw); go_simp; (first | done | with_reducible rfl))
        (try simp only [Act.put, List.setIfInBounds_toArray, List.set_cons_zero, List.set_cons_succ])
        refine wpAnyH_take (i := 2) (oi := ⟨some 85, _, _, _, _, _⟩) (v := ?_) rfl (by kernel_rfl) (by kernel_rfl) (by kernel_rfl) (fun _ _ _ h => h) (Or.inl ⟨by kernel_rfl, ?_⟩) (by assumption) ?_
        rotate_left
        · (intro w hSw; (try dsimp only at hSw); go_simp; (first | done | with_reducible rfl))
        (try simp only [Act.put, List.setIfInBounds_toArray, List.set_cons_zero, List.set_cons_succ])
        refine wpAnyH_take (i := 3) (oi := ⟨some 86, _, _, _, _, _⟩) (v := ?_) rfl (by kernel_rfl) (by kernel_rfl) (by kernel_rfl) (fun _ _ _ h => h) (Or.inl ⟨by kernel_rfl, ?_⟩) (by assumption) ?_
        rotate_left
        · (intro w hSw; (try dsimp only at hSw); go_simp; (first | done | with_reducible rfl))
        (try simp only [Act.put, List.setIfInBounds_toArray, List.set_cons_zero, List.set_cons_succ])
        refine wpAnyH_take (i := 4) (oi := ⟨some 87, _, _, _, _, _⟩) (v := ?_) rfl (by kernel_rfl) (by kernel_rfl) (by kernel_rfl) (fun _ _ _ h => h) (Or.inl ⟨by kernel_rfl, ?_⟩) (by assumption) ?_
        rotate_left
        · (intro w hSw; (try dsimp only at hSw); go_simp; (first | done | with_reducible rfl))
        (try simp only [Act.put, List.setIfInBounds_toArray, List.set_cons_zero, List.set_cons_succ])
        refine wpAnyH_take (i := 6) (oi := ⟨some 89, _, _, _, _, _⟩) (v := ?_) rfl (by kernel_rfl) (by kernel_rfl) (by kernel_rfl) (fun _ _ _ h => h) (Or.inl ⟨by kernel_rfl, ?_⟩) (by assumption) ?_
        rotate_left
        · (intro w hSw; (try dsimp only at hSw); go_simp; (first | done | with_reducible rfl))
        (try simp only [Act.put, List.setIfInBounds_toArray, List.set_cons_zero, List.set_cons_succ])
        refine wpAnyH_ready (rs := [5]) (by kernel_rfl) (by simp) ?_
        refine AllReadyH.cons (o := ⟨some 88, _, _, _, _, _⟩) rfl (fun K hK => ?_) AllReadyH.nil
        go_simp
        first
        | refine hwd.mono ?_
        | refine hwd2.mono ?_
        rintro e wz ⟨rfl, hwz⟩
        subst wz
        refine hK.out _ _ ?_ (fun hHeld1 => ?_)
        · (try dsimp only)
          exact y1
        clear hK K hHeld0
        (try simp only [Act.put, List.setIfInBounds_toArray, List.set_cons_zero, List.set_cons_succ])
        refine wpAnyH_take (i := 7) (oi := ⟨some 90, _, _, _, _, _⟩) (v := ?_) rfl (by kernel_rfl) (by kernel_rfl) (by kernel_rfl) (fun _ _ _ h => h) (Or.inl ⟨by kernel_rfl, ?_⟩) (by assumption) ?_
        rotate_left
        · (intro w hSw; (try dsimp only at hSw); go_simp; (first | done | with_reducible rfl))
        (try simp only [Act.put, List.setIfInBounds_toArray, List.set_cons_zero, List.set_cons_succ])
        refine wpAnyH_take (i := 8) (oi := ⟨some 91, _, _, _, _, _⟩) (v := ?_) rfl (by kernel_rfl) (by kernel_rfl) (by kernel_rfl) (fun _ _ _ h => h) (Or.inl ⟨by kernel_rfl, ?_⟩) (by assumption) ?_
        rotate_left
        · (intro w hSw; (try dsimp only at hSw); go_simp; (first | done | with_reducible rfl))
        (try simp only [Act.put, List.setIfInBounds_toArray, List.set_cons_zero, List.set_cons_succ])
        refine wpAnyH_take (i := 9) (oi := ⟨some 92, _, _, _, _, _⟩) (v := ?_) rfl (by kernel_rfl) (by kernel_rfl) (by kernel_rfl) (fun _ _ _ h => h) (Or.inl ⟨by kernel_rfl, ?_⟩) (by assumption) ?_
        rotate_left
        · (intro w hSw; (try dsimp only at hSw); go_simp; (first | done | with_reducible rfl))
        (try simp only [Act.put, List.setIfInBounds_toArray, List.set_cons_zero, List.set_cons_succ])
        refine wpAnyH_take (i := 10) (oi := ⟨some 93, _, _, _, _, _⟩) (v := ?_) rfl (by kernel_rfl) (by kernel_rfl) (by kernel_rfl) (fun _ _ _ h => h) (Or.inl ⟨by kernel_rfl, ?_⟩) (by assumption) ?_
        rotate_left
        · (intro w hSw; (try dsimp only at hSw); go_simp; (first | done | with_reducible rfl))
        (try simp only [Act.put, List.setIfInBounds_toArray, List.set_cons_zero, List.set_cons_succ])
        refine wpAnyH_take (i := 11) (oi := ⟨some 13, _, _, _, _, _⟩) (v := ?_) rfl (by kernel_rfl) (by kernel_rfl) (by kernel_rfl) (fun _ _ _ h => h) (Or.inl ⟨by kernel_rfl, ?_⟩) (by assumption) ?_
        rotate_left
        · (intro w hSw; (try dsimp only at hSw); go_simp; (first | done | with_reducible rfl))
        (try simp only [Act.put, List.setIfInBounds_toArray, List.set_cons_zero, List.set_cons_succ])
        refine wpAnyH_done (by kernel_rfl) ?_ _
        go_wp2_with fail
        rw [hk1]
        have hJd := HE.out.1.below (Below.refl _ _).drew
        obtain ⟨j, S, hjS, hmS, hrec, hno⟩ := HE.out.2.cut (k := k1) (by rw [HHN.out]; exact hk1l)
        have hjl := (List.getElem?_eq_some_iff.1 hjS).1
        have hct := cut_ok hJd.dk k1 _ rfl (by rw [HHN.out]; exact hk1l) (by have := HHN.out; omega) (by omega)
        have hbd := HB.out.trans ((Below.refl _ wv).drew.mono HB.out.size)
        obtain ⟨wd, hwd'⟩ : ∃ x, wv.drew = x := ⟨_, rfl⟩
        rw [hwd'] at hct hJd hbd
        rw [hwd']
        obtain ⟨u, hu⟩ : ∃ u, svs[j]? = some u := ⟨_, List.getElem?_eq_getElem (by have := own_length hJd.so; omega)⟩
        have hfu := hJd.rd j S u hjS hu
        obtain ⟨uA, uc, rfl, _⟩ := hfu
        have hfu := hJd.rd j S _ hjS hu
        have hcu := own_cell hJd.so hu
        have HU := Lib.hid (And.intro hfu hcu)
        have HJ := Lib.hid (And.intro hJd (And.intro hbd (And.intro hrec (And.intro hmS hno))))
        clear hwd hwd2 hwd' hJd hbd hrec hfu hcu hu hmS hno
        refine hct.mono ?_
        clear hct
        rintro e w6 ⟨cb, rfl, hd6, hb6⟩
        have htl : (hist.take k1).length = k1 := by rw [List.length_take]; have := HHN.out; omega
        have ho6 := open_rec rfl hd6 HJ.out.2.2.1 (by omega) (by omega)
        rw [htl] at ho6
        have H6 := Lib.hid (And.intro hd6 hb6)
        clear hd6 hb6 htl
        go_wp2_with fail
        refine ho6.mono ?_
        clear ho6
        rintro e w7 ⟨rfl, h', ⟨F7, Ro7, hd7, hF7, hR7, hc7⟩, hcl, hle1, hle2, hal⟩
        have hb7 := H6.out.2.trans (hc7.toBelow H6.out.2.size (fun k hk => hk.1))
        have hf7 := files_clean hd7 hcl HJ.out.2.2.2.1 (by omega) (by omega)
        have hl7 : ∀ k, F7 k → wd.heap.size ≤ k := fun k hk => (hF7 k hk).elim (fun h => h.1) (fun h => by have := H6.out.2.size; omega)
        have H7 := Lib.hid (And.intro hd7 (And.intro hb7 (And.intro hl7 (And.intro hcl hal))))
        clear hd7 hb7 hF7 hR7 hc7 hl7 hcl hal
        go_wp2_with fail
        refine hf7.mono ?_
        clear hf7
        rintro e w8 ⟨v8, rfl, ho8, hb8⟩
        have hf8 := FilesS.own ho8 rfl
        have hb8' := H7.out.2.1.trans (hb8.mono H7.out.2.1.size)
        have hfu8 := HU.out.1.chg (S' := fun _ => True) (Chg.below hb8' (fun _ => False)) (fun _ _ => ⟨trivial, fun h => h⟩)
        obtain ⟨A8, c8, rfl, hc8⟩ := own_slice2 ho8
        have hlS := files_len H7.out.1 H7.out.2.2.2.1 HJ.out.2.2.2.1 (by omega)
        have hsm8 := same_files hf8 hfu8 hlS
        have hcu8 := (hb8'.cell (p := ⟨g1, j, none⟩) HJ.out.1.lt.1).trans HU.out.2
        have H8 := Lib.hid (And.intro hb8 (And.intro hb8' ho8))
        clear hb8 hb8' ho8 hf8 hfu8
        have q0 : 0 ≤ (j : Int) ∧ (j : Int) < (St.length : Int) := by omega
        go_wp2_with fail
        refine hsm8.mono ?_
        clear hsm8
        rintro e w9 ⟨rfl, hb9⟩
        have hb9' := H8.out.2.1.trans (hb9.mono H8.out.2.1.size)
        have hd9 := H7.out.1.below (H8.out.1.trans (hb9.mono H8.out.1.size))
        have hwr9 := writes_dk hd9
        have hwr9' := writes_dk (hd9.below (Below.refl _ _).drew)
        have H9 := Lib.hid (And.intro hb9 (And.intro hb9' hd9))
        clear hb9 hb9' hd9 hcu8
        obtain ⟨hm2, hhm⟩ : ∃ hm2, h'.length = hm2 := ⟨_, rfl⟩
        rw [hhm] at hwr9 hwr9' hle1 hle2
        have HHM := Lib.hid hhm
        clear hhm
        have y2' := ((H9.out.2.1.cell (p := ⟨xb, 2, none⟩) (Nat.lt_of_lt_of_le hxl HJ.out.1.bel.size)).trans ((HJ.out.1.bel.cell (p := ⟨xb, 2, none⟩) hxl).trans XC.out.2.2))
        obtain ⟨d, hd⟩ : ∃ d : Nat, d = hm2 - k1 := ⟨_, rfl⟩
        obtain ⟨k2, hk2, hk2l⟩ : ∃ k2 : Nat, (again : Int) % ((d : Int) + 1) = (k2 : Int) ∧ k2 ≤ d := ⟨again % (d + 1), by push_cast; rfl, Nat.le_of_lt_succ (Nat.mod_lt _ (Nat.succ_pos _))⟩
        have e6 : IntKind.i64.wrap (again : Int) = (again : Int) := wrap_i64n (by omega) (by omega)
        have e7 : IntKind.i64.wrap ((hm2 : Int) - (k1 : Int)) = (d : Int) := by
          rw [show ((hm2 : Int) - (k1 : Int)) = (d : Int) by omega]
          exact wrap_i64n (by omega) (by omega)
        have e8 : IntKind.i64.wrap ((d : Int) + 1) = (d : Int) + 1 := wrap_i64n (by omega) (by omega)
        have e9 : ¬ ((d : Int) + 1 = 0) := by omega
        have e10 : IntKind.i64.wrap ((k1 : Int) + (k2 : Int)) = (k1 : Int) + (k2 : Int) := wrap_i64n (by omega) (by omega)
        have HEE : Hid (∀ e, En[j + 1]? = some e → w9.cell? ⟨g2, j + 1, none⟩ = some (.int .i64 (e : Int))) := Lib.hid (fun e he => (H9.out.2.1.cell (p := ⟨g2, j + 1, none⟩) HJ.out.1.lt.2).trans (own_cell HJ.out.1.eo (by rw [List.getElem?_map, he]; rfl)))
        have hkk : k1 + k2 ≤ hm2 := by omega
        clear hd
        have hcase : (¬ ((j : Int) + 1 < (En.length : Int))) ∨ ∃ e : Nat, ((j : Int) + 1 < (En.length : Int)) ∧ w9.cell? ⟨g2, j + 1, none⟩ = some (.int .i64 (e : Int)) ∧ ¬ ((e : Int) ≤ (k1 : Int)) := by
          by_cases hje : j + 1 < En.length
          · have he := List.getElem?_eq_getElem hje
            exact .inr ⟨_, by omega, HEE.out _ he, fun h => HJ.out.2.2.2.2 _ he (by omega)⟩
          · exact .inl (by omega)
        have q00 : 0 ≤ (j : Int) + 1 := by omega
        have hd10 := H9.out.2.2.below (Below.refl _ _).drew
        have hct := cut_ok hd10 (k1 + k2) ((k1 : Int) + (k2 : Int)) (by push_cast; rfl) (by rw [HHM.out]; exact hkk) (by rw [HHM.out]; omega) (by omega)
        have hb10 := H9.out.2.1.trans ((Below.refl _ w9).drew.mono H9.out.2.1.size)
        have H10 := Lib.hid hb10
        clear hd10 hb10
        rcases hcase with q1 | ⟨e, q1, q2, q3⟩
        all_goals
          go_wp2_with fail
          refine wp_region_held_drew (S := (fun w' => w'.cell? ⟨xb, 2, none⟩ = some (.int .u16 (again : Int)))) (by kernel_rfl) ?_ (fun hHeld0 => ?_)
          · (try dsimp only)
            exact y2'
          refine wpAnyH_take (i := 0) (oi := ⟨some 151, _, _, _, _, _⟩) (v := ?_) rfl (by kernel_rfl) (by kernel_rfl) (by kernel_rfl) (fun _ _ _ h => h) (Or.inl ⟨by kernel_rfl, ?_⟩) (by assumption) ?_
          rotate_left
          · (intro w hSw; (try dsimp only at hSw); go_simp; (first | done | with_reducible rfl))
          (try simp only [Act.put, List.setIfInBounds_toArray, List.set_cons_zero, List.set_cons_succ])
          refine wpAnyH_take (i := 1) (oi := ⟨some 152, _, _, _, _, _⟩) (v := ?_) rfl (by kernel_rfl) (by kernel_rfl) (by kernel_rfl) (fun _ _ _ h => h) (Or.inl ⟨by kernel_rfl, ?_⟩) (by assumption) ?_
          rotate_left
          · (intro w hSw; (try dsimp only at hSw); go_simp; (first | done | with_reducible rfl))
          (try simp only [Act.put, List.setIfInBounds_toArray, List.set_cons_zero, List.set_cons_succ])
          refine wpAnyH_take (i := 2) (oi := ⟨some 153, _, _, _, _, _⟩) (v := ?_) rfl (by kernel_rfl) (by kernel_rfl) (by kernel_rfl) (fun _ _ _ h => h) (Or.inl ⟨by kernel_rfl, ?_⟩) (by assumption) ?_
          rotate_left
          · (intro w hSw; (try dsimp only at hSw); go_simp; (first | done | with_reducible rfl))
          (try simp only [Act.put, List.setIfInBounds_toArray, List.set_cons_zero, List.set_cons_succ])
          refine wpAnyH_take (i := 3) (oi := ⟨some 154, _, _, _, _, _⟩) (v := ?_) rfl (by kernel_rfl) (by kernel_rfl) (by kernel_rfl) (fun _ _ _ h => h) (Or.inl ⟨by kernel_rfl, ?_⟩) (by assumption) ?_
          rotate_left
          · (intro w hSw; (try dsimp only at hSw); go_simp; (first | done | with_reducible rfl))
          (try simp only [Act.put, List.setIfInBounds_toArray, List.set_cons_zero, List.set_cons_succ])
          refine wpAnyH_take (i := 4) (oi := ⟨some 155, _, _, _, _, _⟩) (v := ?_) rfl (by kernel_rfl) (by kernel_rfl) (by kernel_rfl) (fun _ _ _ h => h) (Or.inl ⟨by kernel_rfl, ?_⟩) (by assumption) ?_
          rotate_left
          · (intro w hSw; (try dsimp only at hSw); go_simp; (first | done | with_reducible rfl))
          (try simp only [Act.put, List.setIfInBounds_toArray, List.set_cons_zero, List.set_cons_succ])
          refine wpAnyH_take (i := 6) (oi := ⟨some 157, _, _, _, _, _⟩) (v := ?_) rfl (by kernel_rfl) (by kernel_rfl) (by kernel_rfl) (fun _ _ _ h => h) (Or.inl ⟨by kernel_rfl, ?_⟩) (by assumption) ?_
          rotate_left
          · (intro w hSw; (try dsimp only at hSw); go_simp; (first | done | with_reducible rfl))
          (try simp only [Act.put, List.setIfInBounds_toArray, List.set_cons_zero, List.set_cons_succ])
          refine wpAnyH_ready (rs := [5]) (by kernel_rfl) (by simp) ?_
          refine AllReadyH.cons (o := ⟨some 156, _, _, _, _, _⟩) rfl (fun K hK => ?_) AllReadyH.nil
          go_simp
          first
          | refine hwr9.mono ?_
          | refine hwr9'.mono ?_
          rintro e wz ⟨rfl, hwz⟩
          subst wz
          refine hK.out _ _ ?_ (fun hHeld1 => ?_)
          · (try dsimp only)
            exact y2'
          clear hK K hHeld0
          (try simp only [Act.put, List.setIfInBounds_toArray, List.set_cons_zero, List.set_cons_succ])
          refine wpAnyH_take (i := 7) (oi := ⟨some 158, _, _, _, _, _⟩) (v := ?_) rfl (by kernel_rfl) (by kernel_rfl) (by kernel_rfl) (fun _ _ _ h => h) (Or.inl ⟨by kernel_rfl, ?_⟩) (by assumption) ?_
          rotate_left
          · (intro w hSw; (try dsimp only at hSw); go_simp; (first | done | with_reducible rfl))
          (try simp only [Act.put, List.setIfInBounds_toArray, List.set_cons_zero, List.set_cons_succ])
          refine wpAnyH_take (i := 8) (oi := ⟨some 159, _, _, _, _, _⟩) (v := ?_) rfl (by kernel_rfl) (by kernel_rfl) (by kernel_rfl) (fun _ _ _ h => h) (Or.inl ⟨by kernel_rfl, ?_⟩) (by assumption) ?_
          rotate_left
          · (intro w hSw; (try dsimp only at hSw); go_simp; (first | done | with_reducible rfl))
          (try simp only [Act.put, List.setIfInBounds_toArray, List.set_cons_zero, List.set_cons_succ])
          refine wpAnyH_take (i := 9) (oi := ⟨some 160, _, _, _, _, _⟩) (v := ?_) rfl (by kernel_rfl) (by kernel_rfl) (by kernel_rfl) (fun _ _ _ h => h) (Or.inl ⟨by kernel_rfl, ?_⟩) (by assumption) ?_
          rotate_left
          · (intro w hSw; (try dsimp only at hSw); go_simp; (first | done | with_reducible rfl))
          (try simp only [Act.put, List.setIfInBounds_toArray, List.set_cons_zero, List.set_cons_succ])
          refine wpAnyH_take (i := 10) (oi := ⟨some 161, _, _, _, _, _⟩) (v := ?_) rfl (by kernel_rfl) (by kernel_rfl) (by kernel_rfl) (fun _ _ _ h => h) (Or.inl ⟨by kernel_rfl, ?_⟩) (by assumption) ?_
          rotate_left
          · (intro w hSw; (try dsimp only at hSw); go_simp; (first | done | with_reducible rfl))
          (try simp only [Act.put, List.setIfInBounds_toArray, List.set_cons_zero, List.set_cons_succ])
          refine wpAnyH_take (i := 11) (oi := ⟨some 18, _, _, _, _, _⟩) (v := ?_) rfl (by kernel_rfl) (by kernel_rfl) (by kernel_rfl) (fun _ _ _ h => h) (Or.inl ⟨by kernel_rfl, ?_⟩) (by assumption) ?_
          rotate_left
          · (intro w hSw; (try dsimp only at hSw); go_simp; (first | done | with_reducible rfl))
          (try simp only [Act.put, List.setIfInBounds_toArray, List.set_cons_zero, List.set_cons_succ])
          refine wpAnyH_done (by kernel_rfl) ?_ _
          clear hwr9 hwr9'
          go_wp2_with fail
          rw [hk2]
          have H10' := H10.out
          obtain ⟨we, hwe⟩ : ∃ x, w9.drew = x := ⟨_, rfl⟩
          rw [hwe] at hct H10'
          rw [hwe]
          have HT10 := Lib.hid H10'
          clear H10 H10' hwe
          refine hct.mono ?_
          clear hct
          rintro e w11 ⟨bb, rfl, hd11, hb11⟩
          have hrec := H7.out.2.2.2.2 (k1 + k2) (by omega) (by rw [HHM.out]; omega)
          have htl : (h'.take (k1 + k2)).length = k1 + k2 := by rw [List.length_take, HHM.out]; omega
          have ho11 := open_rec rfl hd11 hrec (by omega) (by omega)
          rw [htl] at ho11
          have H11 := Lib.hid (And.intro hd11 hb11)
          clear hd11 hb11 hrec htl
          go_wp2_with fail
          refine ho11.mono ?_
          clear ho11
          rintro e w12 ⟨rfl, h2, ⟨F12, Ro12, hd12, hF12, hR12, hc12⟩, hcl2, hle3, hle4, hal2⟩
          have hb12 := H11.out.2.trans (hc12.toBelow H11.out.2.size (fun k hk => hk.1))
          have hl12 : ∀ k, F12 k → we.heap.size ≤ k := fun k hk => (hF12 k hk).elim (fun h => h.1) (fun h => by have := H11.out.2.size; omega)
          have hf12 := files_clean hd12 hcl2 HJ.out.2.2.2.1 (by omega) (by omega)
          have H12 := Lib.hid (And.intro hd12 (And.intro hb12 (And.intro hl12 hcl2)))
          clear hd12 hb12 hF12 hR12 hc12 hl12 hcl2 hal2
          go_wp2_with fail
          refine hf12.mono ?_
          clear hf12
          rintro e w13 ⟨v13, rfl, ho13, hb13⟩
          have hf13 := FilesS.own ho13 rfl
          have hb13' := HT10.out.trans ((H12.out.2.1.trans (hb13.mono H12.out.2.1.size)).mono HT10.out.size)
          have hfu13 := HU.out.1.chg (S' := fun _ => True) (Chg.below hb13' (fun _ => False)) (fun _ _ => ⟨trivial, fun h => h⟩)
          obtain ⟨A13, c13, rfl, hc13⟩ := own_slice2 ho13
          have hsm13 := same_files hf13 hfu13 hlS
          have hcu13 := (hb13'.cell (p := ⟨g1, j, none⟩) HJ.out.1.lt.1).trans HU.out.2
          have H13 := Lib.hid (And.intro hb13 (And.intro hb13' hf13))
          clear hb13 hb13' ho13 hf13 hfu13
          go_wp2_with fail
          refine hsm13.mono ?_
          clear hsm13
          rintro e w14 ⟨rfl, hb14⟩
          have hb1214 := H13.out.1.trans (hb14.mono H13.out.1.size)
          have hd14 := H12.out.1.below hb1214
          have ho14 := open_clean hd14 H12.out.2.2.2 HJ.out.2.2.2.1 (by omega) (by omega) (by omega)
          have HF12 := Lib.hid H12.out.1.ltF
          have H14 := Lib.hid (And.intro hb14 hb1214)
          clear hb14 hb1214 hd14 hcu13
          go_wp2_with fail
          refine ho14.mono ?_
          clear ho14
          rintro e w15 ⟨rfl, F15, Ro15, hd15, hF15, hR15, hc15⟩
          have hf15 := files_clean hd15 H12.out.2.2.2 HJ.out.2.2.2.1 (by omega) (by omega)
          have H15 := Lib.hid hc15
          clear hd15 hF15 hR15 hc15
          go_wp2_with fail
          refine hf15.mono ?_
          clear hf15
          rintro e w16 ⟨v16, rfl, ho16, hb16⟩
          have hf16 := FilesS.own ho16 rfl
          have hfo := ((H13.out.2.2.chg (S' := fun b => w12.heap.size ≤ b ∧ b < w13.heap.size) (Chg.below H14.out.1 (fun _ => False)) (fun _ h => ⟨h, fun h => h⟩)).chg (S' := fun _ => True) H15.out (fun q hq => ⟨trivial, fun h => by have := HF12.out q h; omega⟩)).chg (S' := fun _ => True) (Chg.below hb16 (fun _ => False)) (fun _ _ => ⟨trivial, fun h => h⟩)
          obtain ⟨A16, c16, rfl, hc16⟩ := own_slice2 ho16
          have hsm16 := same_files hf16 hfo hlS
          have H16 := Lib.hid hb16
          clear hb16 ho16 hf16 hfo
          go_wp2_with fail
          refine hsm16.mono ?_
          clear hsm16
          rintro e w17 ⟨rfl, hb17⟩
          have H17 := Lib.hid hb17
          clear hb17
          go_wp2_with fail
          refine (lives_any _).mono ?_
          rintro e w18 ⟨rfl, hb18⟩
          have H18 := Lib.hid hb18
          clear hb18
          go_wp2_with fail
          go_ret
          refine ⟨rfl, ?_⟩
          have z13 := H13.out.2.1.size
          have t14 := H13.out.2.1.trans (H14.out.1.mono z13)
          have t15 := t14.trans (H15.out.toBelow t14.size (fun q hq => Nat.le_trans HT10.out.size (H12.out.2.2.1 q hq)))
          have t16 := t15.trans (H16.out.mono t15.size)
          have t17 := t16.trans (H17.out.mono t16.size)
          have t18 := t17.trans (H18.out.mono t17.size)
          exact HJ.out.2.1.trans (t18.mono HJ.out.2.1.size)
end Go.Proofs.YtmldpehkacemfaaGreatDoor
