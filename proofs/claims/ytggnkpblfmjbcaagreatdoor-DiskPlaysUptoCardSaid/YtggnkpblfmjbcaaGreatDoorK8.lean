/-
  What the chapter's laws share, part 8: plain facts, memory, and walks of functions. Its conditions: those that each theorem names.
-/
import Derived.Test.YtggnkpblfmjbcaaGreatDoorK7
set_option linter.unusedSimpArgs false
set_option linter.unusedVariables false
namespace Go.Proofs.YtggnkpblfmjbcaaGreatDoor
open Go.RowKit Go.Bd
set_option maxRecDepth 100000 in
set_option maxHeartbeats 8000000 in
theorem diskPlays_true (size : Int) (v : Value) (l : List Ac) (w : World) (ht : Tab w) (h : ActsAt w w.heap.size v l) (hw : weigh l ≤ 1048576) :
    Calls Tryz.prog 3 #[.int .i64 size, v] w fun e w' => e = .returned (.bool true) ∧ Below w.heap.size w w' := by
  obtain ⟨A, c, rfl, hc, f⟩ := h.form
  have hgr := great_any _ l w _ h hw
  have F := Lib.hid f
  have HT := Lib.hid ht
  clear h f ht
  by_cases hg : greatA l = true
  · rw [hg] at hgr
    clear F
    go_enter Tryz.func3, Tryz.ntmps3
    go_wp2_with (first
      | (go_at_call 4; refine hgr.mono ?_; rintro e w1 ⟨rfl, hb1⟩)
      | (go_at_call 5; refine (lives_any _).mono ?_; rintro e w2 ⟨rfl, hb2⟩))
    go_ret
    exact ⟨rfl, hb1.trans (hb2.mono hb1.size)⟩
  have hg1 : greatA l = false := by simpa using hg
  rw [hg1] at hgr
  have hl1 : l.length ≤ 100 := by
    unfold greatA at hg1
    simp at hg1
    omega
  have hl2 : weigh l ≤ 60000 := by
    unfold greatA at hg1
    simp at hg1
    omega
  have WL := Lib.hid (weigh_take_le l)
  clear hg hg1 hw
  by_cases hbad : size < 0 ∨ 8388608 < size
  · have hnb := fun w1 : World => new_bad size hbad w1
    have hrb := fun w1 : World => rnew_bad size hbad w1
    have HNB := Lib.hid (And.intro hnb hrb)
    clear hnb hrb hbad F
    go_enter Tryz.func3, Tryz.ntmps3
    go_wp2_with (first
      | (go_at_call 4; refine hgr.mono ?_; rintro e w1 ⟨rfl, hb1⟩)
      | (go_at_call 6; refine (HNB.out.1 _).mono ?_; rintro e w2 ⟨rfl, hw2⟩; subst w2)
      | (go_at_call 7; refine (HNB.out.2 _).mono ?_; rintro e w2 ⟨rfl, hw2⟩; subst w2)
      | (go_at_call 8; refine (write_nil _ _ _).mono ?_; rintro e w3 ⟨rfl, hb3⟩)
      | (go_at_call 9; refine (used_nil _).mono ?_; rintro e w4 ⟨rfl, hw4⟩; subst w4)
      | (go_at_call 10; refine (writes_nil _).mono ?_; rintro e w4 ⟨rfl, hw4⟩; subst w4)
      | (go_at_call 11; refine (names_nil _).mono ?_; rintro e w4 ⟨rfl, hw4⟩; subst w4)
      | (go_at_call 5; refine (lives_any _).mono ?_; rintro e w5 ⟨rfl, hb5⟩))
    go_ret
    have h13 := hb1.trans (hb3.mono hb1.size)
    exact ⟨rfl, h13.trans (hb5.mono h13.size)⟩
  obtain ⟨sz, rfl⟩ : ∃ sz : Nat, size = sz := ⟨size.toNat, by omega⟩
  have hsz : sz ≤ 8388608 := by omega
  clear hbad
  generalize hn : l.length = n at hc hl1 hgr ⊢
  have HN := Lib.hid hn
  clear hn
  go_enter Tryz.func3, Tryz.ntmps3
  go_wp2_with (first
    | (go_at_call 4; refine hgr.mono ?_; rintro e w1 ⟨rfl, hb1⟩)
    | (go_at_call 6; refine (new_dk sz hsz _).mono ?_; rintro e w2 ⟨db, rfl, hd2, hb2⟩)
    | (go_at_call 7; refine (rnew_any sz hsz _).mono ?_; rintro e w3 ⟨rfl, hr3, hb3⟩))
  have P0 := pl_new hb1 hd2 hb2 hr3 hb3 HT.out
  have HP0 := Lib.hid P0
  obtain ⟨bk, hbk⟩ : ∃ bk, w3.heap.size = bk := ⟨_, rfl⟩
  obtain ⟨W0, hW0⟩ : ∃ W0, w3.alloc (.cells bookCells 54) = W0 := ⟨_, rfl⟩
  (try rw [hW0])
  (try rw [hbk])
  rw [hW0, hbk] at HP0
  have HW0 := Lib.hid (And.intro hW0 hbk)
  clear hW0 hbk P0 hd2 hr3 hb1 hb2 hb3 hgr
  go_loopg [5, 7, 10] n (fun q vd vm vi wr => ∃ (k db rdb : Nat) (hist : List Raw), k + q = n ∧ vi = .int .i64 (k : Int) ∧ vd = .pointer (some ⟨db, 0, none⟩) ∧ vm = .pointer (some ⟨rdb, 0, none⟩) ∧ Hid (Pl w wr sz db rdb bk hist hist (3 * k) (fun _ => False) ∧ Lim hist k (weigh (l.take k))))
  case atStart => exact ⟨0, _, _, [], by omega, rfl, rfl, rfl, Lib.hid ⟨HP0.out, by simpa [weigh] using Lim.nil⟩⟩
  case round =>
    obtain ⟨k, db, rdb, hist, hk, rfl, rfl, rfl, HPL⟩ := hrel
    by_cases hlt : k < n
    · obtain ⟨x, hx⟩ : ∃ x, l[k]? = some x := ⟨_, List.getElem?_eq_getElem (by rw [HN.out]; exact hlt)⟩
      obtain ⟨b, off, A', c', rfl, hbB, c0, c1, c2, c3, hc', hcb⟩ := F.out k x hx
      have hbr := HPL.out.1.hb
      have hwt := weigh_take hx
      have hwl := WL.out (k + 1)
      have L := HPL.out.2
      obtain ⟨wk, hwk⟩ : ∃ wk, weigh (l.take k) = wk := ⟨_, rfl⟩
      rw [hwt, hwk] at hwl
      rw [hwk] at L hwt
      have HL := Lib.hid L
      have HWT := Lib.hid hwt
      have harg : BytesR w w.heap.size (.slice A' x.b.length c') x.b := by
        refine ⟨A', c', by rw [u8L_length], by rw [u8L_length]; exact hc', fun h0 => ?_⟩
        rcases hcb with h | ⟨g, o, h1, h2, h3⟩
        · rw [h] at h0; simp [u8L] at h0
        · exact ⟨g, o, h1, h2, h3⟩
      have HARG := Lib.hid harg
      replace c0 := (hbr.cell (p := ⟨b, off + k * 4, none⟩) hbB).trans c0
      replace c1 := (hbr.cell (p := ⟨b, off + k * 4 + 1, none⟩) hbB).trans c1
      replace c2 := (hbr.cell (p := ⟨b, off + k * 4 + 2, none⟩) hbB).trans c2
      replace c3 := (hbr.cell (p := ⟨b, off + k * 4 + 3, none⟩) hbB).trans c3
      have hnm : x.name.size ≤ 140737488355328 := by omega
      have hxb : x.b.length ≤ 60000 := by omega
      have hbw := hbr.size
      have htwA : Hid (BytesR (wr.alloc (.cells #[.int .u8 (x.kind : Int), .string x.name, .slice A' x.b.length c', .int .i64 x.pos] 57)) w.heap.size (.slice A' x.b.length c') x.b) := by
        refine Lib.hid ?_
        obtain ⟨A1, c1, h1, h2, h3⟩ := harg
        refine ⟨A1, c1, h1, h2, fun h0 => ?_⟩
        obtain ⟨b1, o1, h4, h5, h6⟩ := h3 h0
        have hb2 := hbr.alloc hbw (.cells #[.int .u8 (x.kind : Int), .string x.name, .slice A' x.b.length c', .int .i64 x.pos] 57)
        exact ⟨b1, o1, h4, h5, fun j u hj => (hb2.cell (p := ⟨b1, o1 + j, none⟩) h5).trans (h6 j u hj)⟩
      have HSZ : Hid (w.heap.size ≤ (wr.alloc (.cells #[.int .u8 (x.kind : Int), .string x.name, .slice A' x.b.length c', .int .i64 x.pos] 57)).heap.size) := Lib.hid (by rw [World.size_alloc]; omega)
      clear L hwt hwk harg hcb hbr HP0 HW0
      by_cases hk3 : x.kind % 5 = 3
      · go_wp2_with (go_at_call 12; refine (twinBytes_any _ x.b _ w.heap.size htwA.out HSZ.out (by omega)).mono ?_; rintro e w5 ⟨g, cap, rfl, ho5, hb5⟩; have R := Lib.hid (rn_new HPL.out.1 HARG.out ho5 hb5); clear ho5 hb5 c0 c1 c2 c3; obtain ⟨c0, c1, c2, c3⟩ := R.out.cells)
        go_region_with (first
          | (go_at_call 13; refine (rn_remove (by first | exact R.out | exact R.out.drew) HL.out hnm (by omega)).mono ?_; rintro e w6 ⟨rfl, R6⟩; clear R c0 c1 c2 c3; have R := Lib.hid R6; clear R6; obtain ⟨c0, c1, c2, c3⟩ := R.out.cells)
          | (go_at_call 14; refine (rn_rremove (by first | exact R.out | exact R.out.drew) HL.out hnm).mono ?_; rintro e w7 ⟨rfl, R7⟩; clear R c0 c1 c2 c3; have R := Lib.hid R7; clear R7; obtain ⟨c0, c1, c2, c3⟩ := R.out.cells))
        all_goals
          have L2 := Lib.hid ((HL.out.remove x.name (by omega)).more (Nat.le_refl _) (show wk ≤ wk + (1 + x.b.length + x.name.size) by omega))
          obtain ⟨h2, hh2⟩ : ∃ h2, hist ++ rawsD (runR hist) x.name = h2 := ⟨_, rfl⟩
          rw [hh2] at R L2
          clear hh2
          obtain ⟨q, er, hq⟩ : ∃ q er, readB (runR h2) x.name = (q, er) := ⟨_, _, rfl⟩
          obtain ⟨ns, hns⟩ : ∃ ns, (namesB (runR h2)).map baOf = ns := ⟨_, rfl⟩
          obtain ⟨us, hus⟩ : ∃ us, usedB (runR h2) = us := ⟨_, rfl⟩
          have hql := read_len L2.out hq
          have hnl := names_len L2.out hns
          have HQ := Lib.hid (And.intro hq (And.intro hns hus))
          have R6 := R
          have HC := Lib.hid (rn_refl R.out)
          clear hq hns hus
          go_wp2_with (first
            | (go_at_call 18; refine (rn_read R.out L2.out hnm (by omega) HQ.out.1).mono ?_; rintro e w11 ⟨aA, aC, rfl, ho1, hb1⟩; have HC := Lib.hid (HC.out.trans (hb1.mono HC.out.size)); have R := Lib.hid (R.out.keep hb1); clear c0 c1 c2 c3; obtain ⟨c0, c1, c2, c3⟩ := R.out.cells; have HA := Lib.hid (And.intro ho1 hb1.size); clear ho1 hb1)
            | (go_at_call 19; refine (rn_rread R.out L2.out hnm HQ.out.1).mono ?_; rintro e w12 ⟨cA, cC, rfl, ho2, hb2⟩; have HC := Lib.hid (HC.out.trans (hb2.mono HC.out.size)); have R := Lib.hid (R.out.keep hb2); clear c0 c1 c2 c3; obtain ⟨c0, c1, c2, c3⟩ := R.out.cells; have HA2 := Lib.hid (And.intro (own_below HA.out.1 hb2) (And.intro ho2 hb2.size)); clear ho2 hb2)
            | (go_at_call 11; refine (rn_names R.out L2.out (by omega) HQ.out.2.1).mono ?_; rintro e w13 ⟨nA, nC, rfl, ho3, hb3⟩; have HC := Lib.hid (HC.out.trans (hb3.mono HC.out.size)); have R := Lib.hid (R.out.keep hb3); clear c0 c1 c2 c3; obtain ⟨c0, c1, c2, c3⟩ := R.out.cells; have HA3 := Lib.hid (And.intro (own_below HA2.out.1 hb3) (And.intro (own_below HA2.out.2.1 hb3) (And.intro ho3 hb3.size))); clear ho3 hb3)
            | (go_at_call 20; refine (sameBytes_any _ _ q q _ w13.heap.size (own_rd HA3.out.1) (own_rd HA3.out.2.1) (by omega) (by omega)).mono ?_; rintro e w14 ⟨rfl, hb4⟩; (try simp only [decide_true]); have HC := Lib.hid (HC.out.trans (hb4.mono HC.out.size)); have R := Lib.hid (R.out.keep hb4); clear c0 c1 c2 c3; obtain ⟨c0, c1, c2, c3⟩ := R.out.cells; have HA4 := Lib.hid (And.intro (own_below HA3.out.1 hb4) (And.intro (own_below HA3.out.2.2.1 hb4) hb4.size)); clear hb4)
            | (go_at_call 22; refine (rn_rnames R.out L2.out HQ.out.2.1).mono ?_; rintro e w15 ⟨mA, mC, rfl, ho5, hb5⟩; have HC := Lib.hid (HC.out.trans (hb5.mono HC.out.size)); have R := Lib.hid (R.out.keep hb5); clear c0 c1 c2 c3; obtain ⟨c0, c1, c2, c3⟩ := R.out.cells; have HA5 := Lib.hid (And.intro (own_below HA4.out.1 hb5) (And.intro (own_below HA4.out.2.1 hb5) (And.intro ho5 hb5.size))); clear ho5 hb5)
            | (go_at_call 21; refine (sameTexts_any _ _ ns ns _ w15.heap.size (own_rd HA5.out.2.1) (own_rd HA5.out.2.2.1) (by omega) (by omega)).mono ?_; rintro e w16 ⟨rfl, hb6⟩; (try simp only [decide_true]); have HC := Lib.hid (HC.out.trans (hb6.mono HC.out.size)); have R := Lib.hid (R.out.keep hb6); clear c0 c1 c2 c3; obtain ⟨c0, c1, c2, c3⟩ := R.out.cells; have HA6 := Lib.hid (And.intro (own_below HA5.out.1 hb6) (And.intro (own_below HA5.out.2.1 hb6) hb6.size)); clear hb6)
            | (go_at_call 9; refine (rn_used R.out).mono ?_; rintro e w17 ⟨rfl, hw17⟩; subst w17; rw [HQ.out.2.2])
            | (go_at_call 23; refine (rn_rused R.out L2.out).mono ?_; rintro e w18 ⟨rfl, hb8⟩; rw [HQ.out.2.2]; have HC := Lib.hid (HC.out.trans (hb8.mono HC.out.size)); have R := Lib.hid (R.out.keep hb8); clear c0 c1 c2 c3; obtain ⟨c0, c1, c2, c3⟩ := R.out.cells; have HA8 := Lib.hid (And.intro (own_below HA6.out.1 hb8) (And.intro (own_below HA6.out.2.1 hb8) hb8.size)); clear hb8)
            | (go_at_call 10; refine (rn_writes R.out).mono ?_; rintro e w19 ⟨rfl, hw19⟩; subst w19)
            | (go_at_call 24; refine (rn_rwrites R.out).mono ?_; rintro e w20 ⟨rfl, hw20⟩; subst w20)
            | (go_at_call 25; refine (rn_left R.out (by omega)).mono ?_; rintro e w21 ⟨rfl, hb9⟩; have HC := Lib.hid (HC.out.trans (hb9.mono HC.out.size)); have R := Lib.hid (R.out.keep hb9); clear c0 c1 c2 c3; obtain ⟨c0, c1, c2, c3⟩ := R.out.cells; have HA9 := Lib.hid (And.intro (own_below HA8.out.1 hb9) (And.intro (own_below HA8.out.2.1 hb9) hb9.size)); clear hb9))
          have T1 := Lib.hid (t1_new R6.out HC.out HA9.out.1 (s1 := w12.heap.size) (fun j hj => Nat.lt_of_lt_of_le (HA.out.1.lt j hj).2 HA2.out.2.2) HA9.out.2.1 (Nat.le_trans HA.out.2 HA2.out.2.2))
          go_wp2_with (first
            | (go_at_call 26; refine (tell1 T1.out (by omega) (by omega)).mono ?_; rintro e w22 ⟨rfl, T2'⟩; have T2 := Lib.hid T2'; clear T2')
            | (go_at_call 26; refine (tell2 T2.out (by omega) (by omega)).mono ?_; rintro e w23 ⟨rfl, T3'⟩; have T3 := Lib.hid T3'; clear T3')
            | (go_at_call 27; refine (tell3 T3.out (by omega) (by omega)).mono ?_; rintro e w24 ⟨rfl, P4'⟩; have P4 := Lib.hid P4'; clear P4'))
          go_roundg (gk - 1)
          case measure => omega
          case rel => exact ⟨k + 1, _, _, h2, by omega, by go_num, rfl, rfl, Lib.hid ⟨by rw [show 3 * (k + 1) = 3 * k + 1 + 1 + 1 by omega]; exact P4.out, by rw [HWT.out]; exact L2.out⟩⟩
      · by_cases hk4 : x.kind % 5 = 4
        · by_cases hcut : x.pos < 0 ∨ (hist.length : Int) < x.pos
          · go_wp2_with (first
              | (go_at_call 12; refine (twinBytes_any _ x.b _ w.heap.size htwA.out HSZ.out (by omega)).mono ?_; rintro e w5 ⟨g, cap, rfl, ho5, hb5⟩; have R := Lib.hid (rn_new HPL.out.1 HARG.out ho5 hb5); clear ho5 hb5 c0 c1 c2 c3; obtain ⟨c0, c1, c2, c3⟩ := R.out.cells)
              | (go_at_call 15; refine (pl_cut_bad R.out.pl HL.out x.pos hcut (by omega) hsz).mono ?_; rintro e w6 ⟨rfl, hw6⟩; subst w6)
              | (go_at_call 16; refine (pl_rcut_bad R.out.pl HL.out x.pos hcut hsz).mono ?_; rintro e w6 ⟨rfl, hw6⟩; subst w6; have L2 := Lib.hid (HL.out.more (Nat.le_succ k) (show wk ≤ wk + (1 + x.b.length + x.name.size) by omega)); obtain ⟨h2, hh2⟩ : ∃ h2, hist = h2 := ⟨_, rfl⟩; rw [hh2] at R L2; clear hh2)
              | fail)
            obtain ⟨q, er, hq⟩ : ∃ q er, readB (runR h2) x.name = (q, er) := ⟨_, _, rfl⟩
            obtain ⟨ns, hns⟩ : ∃ ns, (namesB (runR h2)).map baOf = ns := ⟨_, rfl⟩
            obtain ⟨us, hus⟩ : ∃ us, usedB (runR h2) = us := ⟨_, rfl⟩
            have hql := read_len L2.out hq
            have hnl := names_len L2.out hns
            have HQ := Lib.hid (And.intro hq (And.intro hns hus))
            have R6 := R
            have HC := Lib.hid (rn_refl R.out)
            clear hq hns hus
            go_wp2_with (first
              | (go_at_call 18; refine (rn_read R.out L2.out hnm (by omega) HQ.out.1).mono ?_; rintro e w11 ⟨aA, aC, rfl, ho1, hb1⟩; have HC := Lib.hid (HC.out.trans (hb1.mono HC.out.size)); have R := Lib.hid (R.out.keep hb1); clear c0 c1 c2 c3; obtain ⟨c0, c1, c2, c3⟩ := R.out.cells; have HA := Lib.hid (And.intro ho1 hb1.size); clear ho1 hb1)
              | (go_at_call 19; refine (rn_rread R.out L2.out hnm HQ.out.1).mono ?_; rintro e w12 ⟨cA, cC, rfl, ho2, hb2⟩; have HC := Lib.hid (HC.out.trans (hb2.mono HC.out.size)); have R := Lib.hid (R.out.keep hb2); clear c0 c1 c2 c3; obtain ⟨c0, c1, c2, c3⟩ := R.out.cells; have HA2 := Lib.hid (And.intro (own_below HA.out.1 hb2) (And.intro ho2 hb2.size)); clear ho2 hb2)
              | (go_at_call 11; refine (rn_names R.out L2.out (by omega) HQ.out.2.1).mono ?_; rintro e w13 ⟨nA, nC, rfl, ho3, hb3⟩; have HC := Lib.hid (HC.out.trans (hb3.mono HC.out.size)); have R := Lib.hid (R.out.keep hb3); clear c0 c1 c2 c3; obtain ⟨c0, c1, c2, c3⟩ := R.out.cells; have HA3 := Lib.hid (And.intro (own_below HA2.out.1 hb3) (And.intro (own_below HA2.out.2.1 hb3) (And.intro ho3 hb3.size))); clear ho3 hb3)
              | (go_at_call 20; refine (sameBytes_any _ _ q q _ w13.heap.size (own_rd HA3.out.1) (own_rd HA3.out.2.1) (by omega) (by omega)).mono ?_; rintro e w14 ⟨rfl, hb4⟩; (try simp only [decide_true]); have HC := Lib.hid (HC.out.trans (hb4.mono HC.out.size)); have R := Lib.hid (R.out.keep hb4); clear c0 c1 c2 c3; obtain ⟨c0, c1, c2, c3⟩ := R.out.cells; have HA4 := Lib.hid (And.intro (own_below HA3.out.1 hb4) (And.intro (own_below HA3.out.2.2.1 hb4) hb4.size)); clear hb4)
              | (go_at_call 22; refine (rn_rnames R.out L2.out HQ.out.2.1).mono ?_; rintro e w15 ⟨mA, mC, rfl, ho5, hb5⟩; have HC := Lib.hid (HC.out.trans (hb5.mono HC.out.size)); have R := Lib.hid (R.out.keep hb5); clear c0 c1 c2 c3; obtain ⟨c0, c1, c2, c3⟩ := R.out.cells; have HA5 := Lib.hid (And.intro (own_below HA4.out.1 hb5) (And.intro (own_below HA4.out.2.1 hb5) (And.intro ho5 hb5.size))); clear ho5 hb5)
              | (go_at_call 21; refine (sameTexts_any _ _ ns ns _ w15.heap.size (own_rd HA5.out.2.1) (own_rd HA5.out.2.2.1) (by omega) (by omega)).mono ?_; rintro e w16 ⟨rfl, hb6⟩; (try simp only [decide_true]); have HC := Lib.hid (HC.out.trans (hb6.mono HC.out.size)); have R := Lib.hid (R.out.keep hb6); clear c0 c1 c2 c3; obtain ⟨c0, c1, c2, c3⟩ := R.out.cells; have HA6 := Lib.hid (And.intro (own_below HA5.out.1 hb6) (And.intro (own_below HA5.out.2.1 hb6) hb6.size)); clear hb6)
              | (go_at_call 9; refine (rn_used R.out).mono ?_; rintro e w17 ⟨rfl, hw17⟩; subst w17; rw [HQ.out.2.2])
              | (go_at_call 23; refine (rn_rused R.out L2.out).mono ?_; rintro e w18 ⟨rfl, hb8⟩; rw [HQ.out.2.2]; have HC := Lib.hid (HC.out.trans (hb8.mono HC.out.size)); have R := Lib.hid (R.out.keep hb8); clear c0 c1 c2 c3; obtain ⟨c0, c1, c2, c3⟩ := R.out.cells; have HA8 := Lib.hid (And.intro (own_below HA6.out.1 hb8) (And.intro (own_below HA6.out.2.1 hb8) hb8.size)); clear hb8)
              | (go_at_call 10; refine (rn_writes R.out).mono ?_; rintro e w19 ⟨rfl, hw19⟩; subst w19)
              | (go_at_call 24; refine (rn_rwrites R.out).mono ?_; rintro e w20 ⟨rfl, hw20⟩; subst w20)
              | (go_at_call 25; refine (rn_left R.out (by omega)).mono ?_; rintro e w21 ⟨rfl, hb9⟩; have HC := Lib.hid (HC.out.trans (hb9.mono HC.out.size)); have R := Lib.hid (R.out.keep hb9); clear c0 c1 c2 c3; obtain ⟨c0, c1, c2, c3⟩ := R.out.cells; have HA9 := Lib.hid (And.intro (own_below HA8.out.1 hb9) (And.intro (own_below HA8.out.2.1 hb9) hb9.size)); clear hb9))
            have T1 := Lib.hid (t1_new R6.out HC.out HA9.out.1 (s1 := w12.heap.size) (fun j hj => Nat.lt_of_lt_of_le (HA.out.1.lt j hj).2 HA2.out.2.2) HA9.out.2.1 (Nat.le_trans HA.out.2 HA2.out.2.2))
            go_wp2_with (first
              | (go_at_call 26; refine (tell1 T1.out (by omega) (by omega)).mono ?_; rintro e w22 ⟨rfl, T2'⟩; have T2 := Lib.hid T2'; clear T2')
              | (go_at_call 26; refine (tell2 T2.out (by omega) (by omega)).mono ?_; rintro e w23 ⟨rfl, T3'⟩; have T3 := Lib.hid T3'; clear T3')
              | (go_at_call 27; refine (tell3 T3.out (by omega) (by omega)).mono ?_; rintro e w24 ⟨rfl, P4'⟩; have P4 := Lib.hid P4'; clear P4'))
            go_roundg (gk - 1)
            case measure => omega
            case rel => exact ⟨k + 1, _, _, h2, by omega, by go_num, rfl, rfl, Lib.hid ⟨by rw [show 3 * (k + 1) = 3 * k + 1 + 1 + 1 by omega]; exact P4.out, by rw [HWT.out]; exact L2.out⟩⟩
          · go_wp2_with (first
              | (go_at_call 12; refine (twinBytes_any _ x.b _ w.heap.size htwA.out HSZ.out (by omega)).mono ?_; rintro e w5 ⟨g, cap, rfl, ho5, hb5⟩; have R := Lib.hid (rn_new HPL.out.1 HARG.out ho5 hb5); clear ho5 hb5 c0 c1 c2 c3; obtain ⟨c0, c1, c2, c3⟩ := R.out.cells)
              | (go_at_call 15; refine (rn_cut R.out HL.out x.pos hcut (by omega) hsz).mono ?_; rintro e w6 ⟨db2, rfl, R6⟩; clear R c0 c1 c2 c3; have R := Lib.hid R6; clear R6; obtain ⟨c0, c1, c2, c3⟩ := R.out.cells)
              | (go_at_call 16; refine (rn_rcut R.out HL.out x.pos hcut hsz).mono ?_; rintro e w7 ⟨rdb2, rfl, R6⟩; clear R c0 c1 c2 c3; have R := Lib.hid R6; clear R6; obtain ⟨c0, c1, c2, c3⟩ := R.out.cells))
            have L2 := Lib.hid ((HL.out.take x.pos.toNat).more (Nat.le_succ k) (show wk ≤ wk + (1 + x.b.length + x.name.size) by omega))
            obtain ⟨h2, hh2⟩ : ∃ h2, hist.take x.pos.toNat = h2 := ⟨_, rfl⟩
            rw [hh2] at R L2
            clear hh2
            obtain ⟨q, er, hq⟩ : ∃ q er, readB (runR h2) x.name = (q, er) := ⟨_, _, rfl⟩
            obtain ⟨ns, hns⟩ : ∃ ns, (namesB (runR h2)).map baOf = ns := ⟨_, rfl⟩
            obtain ⟨us, hus⟩ : ∃ us, usedB (runR h2) = us := ⟨_, rfl⟩
            have hql := read_len L2.out hq
            have hnl := names_len L2.out hns
            have HQ := Lib.hid (And.intro hq (And.intro hns hus))
            have R6 := R
            have HC := Lib.hid (rn_refl R.out)
            clear hq hns hus
            go_wp2_with (first
              | (go_at_call 18; refine (rn_read R.out L2.out hnm (by omega) HQ.out.1).mono ?_; rintro e w11 ⟨aA, aC, rfl, ho1, hb1⟩; have HC := Lib.hid (HC.out.trans (hb1.mono HC.out.size)); have R := Lib.hid (R.out.keep hb1); clear c0 c1 c2 c3; obtain ⟨c0, c1, c2, c3⟩ := R.out.cells; have HA := Lib.hid (And.intro ho1 hb1.size); clear ho1 hb1)
              | (go_at_call 19; refine (rn_rread R.out L2.out hnm HQ.out.1).mono ?_; rintro e w12 ⟨cA, cC, rfl, ho2, hb2⟩; have HC := Lib.hid (HC.out.trans (hb2.mono HC.out.size)); have R := Lib.hid (R.out.keep hb2); clear c0 c1 c2 c3; obtain ⟨c0, c1, c2, c3⟩ := R.out.cells; have HA2 := Lib.hid (And.intro (own_below HA.out.1 hb2) (And.intro ho2 hb2.size)); clear ho2 hb2)
              | (go_at_call 11; refine (rn_names R.out L2.out (by omega) HQ.out.2.1).mono ?_; rintro e w13 ⟨nA, nC, rfl, ho3, hb3⟩; have HC := Lib.hid (HC.out.trans (hb3.mono HC.out.size)); have R := Lib.hid (R.out.keep hb3); clear c0 c1 c2 c3; obtain ⟨c0, c1, c2, c3⟩ := R.out.cells; have HA3 := Lib.hid (And.intro (own_below HA2.out.1 hb3) (And.intro (own_below HA2.out.2.1 hb3) (And.intro ho3 hb3.size))); clear ho3 hb3)
              | (go_at_call 20; refine (sameBytes_any _ _ q q _ w13.heap.size (own_rd HA3.out.1) (own_rd HA3.out.2.1) (by omega) (by omega)).mono ?_; rintro e w14 ⟨rfl, hb4⟩; (try simp only [decide_true]); have HC := Lib.hid (HC.out.trans (hb4.mono HC.out.size)); have R := Lib.hid (R.out.keep hb4); clear c0 c1 c2 c3; obtain ⟨c0, c1, c2, c3⟩ := R.out.cells; have HA4 := Lib.hid (And.intro (own_below HA3.out.1 hb4) (And.intro (own_below HA3.out.2.2.1 hb4) hb4.size)); clear hb4)
              | (go_at_call 22; refine (rn_rnames R.out L2.out HQ.out.2.1).mono ?_; rintro e w15 ⟨mA, mC, rfl, ho5, hb5⟩; have HC := Lib.hid (HC.out.trans (hb5.mono HC.out.size)); have R := Lib.hid (R.out.keep hb5); clear c0 c1 c2 c3; obtain ⟨c0, c1, c2, c3⟩ := R.out.cells; have HA5 := Lib.hid (And.intro (own_below HA4.out.1 hb5) (And.intro (own_below HA4.out.2.1 hb5) (And.intro ho5 hb5.size))); clear ho5 hb5)
              | (go_at_call 21; refine (sameTexts_any _ _ ns ns _ w15.heap.size (own_rd HA5.out.2.1) (own_rd HA5.out.2.2.1) (by omega) (by omega)).mono ?_; rintro e w16 ⟨rfl, hb6⟩; (try simp only [decide_true]); have HC := Lib.hid (HC.out.trans (hb6.mono HC.out.size)); have R := Lib.hid (R.out.keep hb6); clear c0 c1 c2 c3; obtain ⟨c0, c1, c2, c3⟩ := R.out.cells; have HA6 := Lib.hid (And.intro (own_below HA5.out.1 hb6) (And.intro (own_below HA5.out.2.1 hb6) hb6.size)); clear hb6)
              | (go_at_call 9; refine (rn_used R.out).mono ?_; rintro e w17 ⟨rfl, hw17⟩; subst w17; rw [HQ.out.2.2])
              | (go_at_call 23; refine (rn_rused R.out L2.out).mono ?_; rintro e w18 ⟨rfl, hb8⟩; rw [HQ.out.2.2]; have HC := Lib.hid (HC.out.trans (hb8.mono HC.out.size)); have R := Lib.hid (R.out.keep hb8); clear c0 c1 c2 c3; obtain ⟨c0, c1, c2, c3⟩ := R.out.cells; have HA8 := Lib.hid (And.intro (own_below HA6.out.1 hb8) (And.intro (own_below HA6.out.2.1 hb8) hb8.size)); clear hb8)
              | (go_at_call 10; refine (rn_writes R.out).mono ?_; rintro e w19 ⟨rfl, hw19⟩; subst w19)
              | (go_at_call 24; refine (rn_rwrites R.out).mono ?_; rintro e w20 ⟨rfl, hw20⟩; subst w20)
              | (go_at_call 25; refine (rn_left R.out (by omega)).mono ?_; rintro e w21 ⟨rfl, hb9⟩; have HC := Lib.hid (HC.out.trans (hb9.mono HC.out.size)); have R := Lib.hid (R.out.keep hb9); clear c0 c1 c2 c3; obtain ⟨c0, c1, c2, c3⟩ := R.out.cells; have HA9 := Lib.hid (And.intro (own_below HA8.out.1 hb9) (And.intro (own_below HA8.out.2.1 hb9) hb9.size)); clear hb9))
            have T1 := Lib.hid (t1_new R6.out HC.out HA9.out.1 (s1 := w12.heap.size) (fun j hj => Nat.lt_of_lt_of_le (HA.out.1.lt j hj).2 HA2.out.2.2) HA9.out.2.1 (Nat.le_trans HA.out.2 HA2.out.2.2))
            go_wp2_with (first
              | (go_at_call 26; refine (tell1 T1.out (by omega) (by omega)).mono ?_; rintro e w22 ⟨rfl, T2'⟩; have T2 := Lib.hid T2'; clear T2')
              | (go_at_call 26; refine (tell2 T2.out (by omega) (by omega)).mono ?_; rintro e w23 ⟨rfl, T3'⟩; have T3 := Lib.hid T3'; clear T3')
              | (go_at_call 27; refine (tell3 T3.out (by omega) (by omega)).mono ?_; rintro e w24 ⟨rfl, P4'⟩; have P4 := Lib.hid P4'; clear P4'))
            go_roundg (gk - 1)
            case measure => omega
            case rel => exact ⟨k + 1, _, _, h2, by omega, by go_num, rfl, rfl, Lib.hid ⟨by rw [show 3 * (k + 1) = 3 * k + 1 + 1 + 1 by omega]; exact P4.out, by rw [HWT.out]; exact L2.out⟩⟩
        · go_wp2_with (go_at_call 12; refine (twinBytes_any _ x.b _ w.heap.size htwA.out HSZ.out (by omega)).mono ?_; rintro e w5 ⟨g, cap, rfl, ho5, hb5⟩; have R := Lib.hid (rn_new HPL.out.1 HARG.out ho5 hb5); clear ho5 hb5 c0 c1 c2 c3; obtain ⟨c0, c1, c2, c3⟩ := R.out.cells)
          go_region_with (first
            | (go_at_call 8; refine (rn_write (by first | exact R.out | exact R.out.drew) HL.out hnm (by omega) hsz).mono ?_; rintro e w6 ⟨rfl, R6⟩; clear R c0 c1 c2 c3; have R := Lib.hid R6; clear R6; obtain ⟨c0, c1, c2, c3⟩ := R.out.cells)
            | (go_at_call 17; refine (rn_rwrite (by first | exact R.out | exact R.out.drew) HL.out hnm (by omega) (by omega) hsz).mono ?_; rintro e w7 ⟨rfl, R6⟩; clear R c0 c1 c2 c3; have R := Lib.hid R6; clear R6; obtain ⟨c0, c1, c2, c3⟩ := R.out.cells))
          all_goals
            have L2 := Lib.hid ((HL.out.write sz x.name x.b (by omega) (by omega)).more (Nat.le_refl _) (show wk + x.b.length ≤ wk + (1 + x.b.length + x.name.size) by omega))
            obtain ⟨h2, hh2⟩ : ∃ h2, hist ++ rawsW (runR hist) sz x.name x.b = h2 := ⟨_, rfl⟩
            rw [hh2] at R L2
            clear hh2
            obtain ⟨q, er, hq⟩ : ∃ q er, readB (runR h2) x.name = (q, er) := ⟨_, _, rfl⟩
            obtain ⟨ns, hns⟩ : ∃ ns, (namesB (runR h2)).map baOf = ns := ⟨_, rfl⟩
            obtain ⟨us, hus⟩ : ∃ us, usedB (runR h2) = us := ⟨_, rfl⟩
            have hql := read_len L2.out hq
            have hnl := names_len L2.out hns
            have HQ := Lib.hid (And.intro hq (And.intro hns hus))
            have R6 := R
            have HC := Lib.hid (rn_refl R.out)
            clear hq hns hus
            go_wp2_with (first
              | (go_at_call 18; refine (rn_read R.out L2.out hnm (by omega) HQ.out.1).mono ?_; rintro e w11 ⟨aA, aC, rfl, ho1, hb1⟩; have HC := Lib.hid (HC.out.trans (hb1.mono HC.out.size)); have R := Lib.hid (R.out.keep hb1); clear c0 c1 c2 c3; obtain ⟨c0, c1, c2, c3⟩ := R.out.cells; have HA := Lib.hid (And.intro ho1 hb1.size); clear ho1 hb1)
              | (go_at_call 19; refine (rn_rread R.out L2.out hnm HQ.out.1).mono ?_; rintro e w12 ⟨cA, cC, rfl, ho2, hb2⟩; have HC := Lib.hid (HC.out.trans (hb2.mono HC.out.size)); have R := Lib.hid (R.out.keep hb2); clear c0 c1 c2 c3; obtain ⟨c0, c1, c2, c3⟩ := R.out.cells; have HA2 := Lib.hid (And.intro (own_below HA.out.1 hb2) (And.intro ho2 hb2.size)); clear ho2 hb2)
              | (go_at_call 11; refine (rn_names R.out L2.out (by omega) HQ.out.2.1).mono ?_; rintro e w13 ⟨nA, nC, rfl, ho3, hb3⟩; have HC := Lib.hid (HC.out.trans (hb3.mono HC.out.size)); have R := Lib.hid (R.out.keep hb3); clear c0 c1 c2 c3; obtain ⟨c0, c1, c2, c3⟩ := R.out.cells; have HA3 := Lib.hid (And.intro (own_below HA2.out.1 hb3) (And.intro (own_below HA2.out.2.1 hb3) (And.intro ho3 hb3.size))); clear ho3 hb3)
              | (go_at_call 20; refine (sameBytes_any _ _ q q _ w13.heap.size (own_rd HA3.out.1) (own_rd HA3.out.2.1) (by omega) (by omega)).mono ?_; rintro e w14 ⟨rfl, hb4⟩; (try simp only [decide_true]); have HC := Lib.hid (HC.out.trans (hb4.mono HC.out.size)); have R := Lib.hid (R.out.keep hb4); clear c0 c1 c2 c3; obtain ⟨c0, c1, c2, c3⟩ := R.out.cells; have HA4 := Lib.hid (And.intro (own_below HA3.out.1 hb4) (And.intro (own_below HA3.out.2.2.1 hb4) hb4.size)); clear hb4)
              | (go_at_call 22; refine (rn_rnames R.out L2.out HQ.out.2.1).mono ?_; rintro e w15 ⟨mA, mC, rfl, ho5, hb5⟩; have HC := Lib.hid (HC.out.trans (hb5.mono HC.out.size)); have R := Lib.hid (R.out.keep hb5); clear c0 c1 c2 c3; obtain ⟨c0, c1, c2, c3⟩ := R.out.cells; have HA5 := Lib.hid (And.intro (own_below HA4.out.1 hb5) (And.intro (own_below HA4.out.2.1 hb5) (And.intro ho5 hb5.size))); clear ho5 hb5)
              | (go_at_call 21; refine (sameTexts_any _ _ ns ns _ w15.heap.size (own_rd HA5.out.2.1) (own_rd HA5.out.2.2.1) (by omega) (by omega)).mono ?_; rintro e w16 ⟨rfl, hb6⟩; (try simp only [decide_true]); have HC := Lib.hid (HC.out.trans (hb6.mono HC.out.size)); have R := Lib.hid (R.out.keep hb6); clear c0 c1 c2 c3; obtain ⟨c0, c1, c2, c3⟩ := R.out.cells; have HA6 := Lib.hid (And.intro (own_below HA5.out.1 hb6) (And.intro (own_below HA5.out.2.1 hb6) hb6.size)); clear hb6)
              | (go_at_call 9; refine (rn_used R.out).mono ?_; rintro e w17 ⟨rfl, hw17⟩; subst w17; rw [HQ.out.2.2])
              | (go_at_call 23; refine (rn_rused R.out L2.out).mono ?_; rintro e w18 ⟨rfl, hb8⟩; rw [HQ.out.2.2]; have HC := Lib.hid (HC.out.trans (hb8.mono HC.out.size)); have R := Lib.hid (R.out.keep hb8); clear c0 c1 c2 c3; obtain ⟨c0, c1, c2, c3⟩ := R.out.cells; have HA8 := Lib.hid (And.intro (own_below HA6.out.1 hb8) (And.intro (own_below HA6.out.2.1 hb8) hb8.size)); clear hb8)
              | (go_at_call 10; refine (rn_writes R.out).mono ?_; rintro e w19 ⟨rfl, hw19⟩; subst w19)
              | (go_at_call 24; refine (rn_rwrites R.out).mono ?_; rintro e w20 ⟨rfl, hw20⟩; subst w20)
              | (go_at_call 25; refine (rn_left R.out (by omega)).mono ?_; rintro e w21 ⟨rfl, hb9⟩; have HC := Lib.hid (HC.out.trans (hb9.mono HC.out.size)); have R := Lib.hid (R.out.keep hb9); clear c0 c1 c2 c3; obtain ⟨c0, c1, c2, c3⟩ := R.out.cells; have HA9 := Lib.hid (And.intro (own_below HA8.out.1 hb9) (And.intro (own_below HA8.out.2.1 hb9) hb9.size)); clear hb9))
            have T1 := Lib.hid (t1_new R6.out HC.out HA9.out.1 (s1 := w12.heap.size) (fun j hj => Nat.lt_of_lt_of_le (HA.out.1.lt j hj).2 HA2.out.2.2) HA9.out.2.1 (Nat.le_trans HA.out.2 HA2.out.2.2))
            go_wp2_with (first
              | (go_at_call 26; refine (tell1 T1.out (by omega) (by omega)).mono ?_; rintro e w22 ⟨rfl, T2'⟩; have T2 := Lib.hid T2'; clear T2')
              | (go_at_call 26; refine (tell2 T2.out (by omega) (by omega)).mono ?_; rintro e w23 ⟨rfl, T3'⟩; have T3 := Lib.hid T3'; clear T3')
              | (go_at_call 27; refine (tell3 T3.out (by omega) (by omega)).mono ?_; rintro e w24 ⟨rfl, P4'⟩; have P4 := Lib.hid P4'; clear P4'))
            go_roundg (gk - 1)
            case measure => omega
            case rel => exact ⟨k + 1, _, _, h2, by omega, by go_num, rfl, rfl, Lib.hid ⟨by rw [show 3 * (k + 1) = 3 * k + 1 + 1 + 1 by omega]; exact P4.out, by rw [HWT.out]; exact L2.out⟩⟩
    · obtain rfl : k = n := by omega
      clear HP0 HW0
      go_wp2_with (first
        | (go_at_call 28; refine (pl_apart HPL.out.1).mono ?_; rintro e w6 ⟨rfl, hb6⟩)
        | (go_at_call 5; refine (lives_any _).mono ?_; rintro e w7 ⟨rfl, hb7⟩))
      go_ret
      exact ⟨rfl, hb6.trans (hb7.mono hb6.size)⟩
end Go.Proofs.YtggnkpblfmjbcaaGreatDoor
namespace Go.Proofs.YtggnkpblfmjbcaaGreatDoor
open Go.RowKit Go.Bd
theorem diskPlays_core (size : Int) (v : Value) (l : List Ac) (w : World) (ht : Tab w) (_ : Lit.wf (.int .i64 size)) (h : ActsAt w w.heap.size v l) (hw : weigh l ≤ 1048576) :
    Calls Tryz.prog 3 #[.int .i64 size, v] w fun e w' => e = .returned (.bool true) ∧ Below w.heap.size w w' := diskPlays_true size v l w ht h hw
end Go.Proofs.YtggnkpblfmjbcaaGreatDoor
