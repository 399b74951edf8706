/-
  What the chapter's laws share, part 5: plain facts, memory, and walks of functions. Its conditions: those that each theorem names.
-/
import Derived.Test.YtmdbhdhfdldegaaGreatDoorRows
import Derived.Test.YtmdbhdhfdldegaaGreatDoorChecked
import Derived.IntWalk
import Derived.Deep.Light
import Derived.Handy
import Derived.Lib.Hide
import Derived.BigQuiet
import Derived.Deep.LoopGhost
import Derived.Below
import Derived.WalkKit
import Derived.WalkSpells
import Derived.Deep.RegionHeld3
import Derived.Deep.AppendLies
import Derived.Deep.DrawnRows
import Derived.Outline
import Derived.Test.YtmdbhdhfdldegaaGreatDoorCards
import Derived.Test.YtmdbhdhfdldegaaGreatDoorTie
import Derived.Test.YtmdbhdhfdldegaaGreatDoorShelf
import Derived.ChangeSame
import Derived.ProofKit
import Derived.OpenShut
import Derived.SizedLaws
import Derived.Deep.DeepHandedRow
import Derived.Lib.LaidTab
import Derived.Lib.LaidU8T
import Derived.Deep.Slices
import Derived.ChangeArms
import Derived.WideShapes
import Derived.Test.YtmdbhdhfdldegaaGreatDoorK4
set_option linter.unusedSimpArgs false
set_option linter.unusedVariables false
namespace Go.Bd
mutual
def dw1 : Sp → Nat
  | ⟨k, t, _, _, kids⟩ => (if k = 0 then max 1 t.length else 1) + dwL kids
def dwL : List Sp → Nat
  | [] => 0
  | x :: l => dw1 x + dwL l
end
mutual
theorem many_dw1 : ∀ x : Sp, many1 x ≤ dw1 x
  | ⟨k, t, u, v, ks⟩ => by
    have := many_dwL ks
    simp only [many1, dw1]
    split <;> omega
theorem many_dwL : ∀ l : List Sp, manyL l ≤ dwL l
  | [] => Nat.le_refl _
  | x :: l => by
    have h1 := many_dw1 x
    have h2 := many_dwL l
    simp only [manyL, dwL]; omega
end
theorem dwL_app : ∀ a b : List Sp, dwL (a ++ b) = dwL a + dwL b
  | [], b => by simp [dwL]
  | x :: a, b => by rw [List.cons_append, dwL, dwL, dwL_app a b, Nat.add_assoc]
theorem dw_txt {s : Bs} (h : s ≠ []) : dw1 (txt s) = s.length := by
  have := List.length_pos_iff.2 h
  simp only [txt, dw1, if_true, dwL]; omega
def dwR (r : Rw) : Nat := dwL r.sp + r.tx.length
def dwF (f : Fr) : Nat := dwR f.row + f.sign.length
def dwFs (l : List Fr) : Nat := (l.map dwF).sum
theorem dwFs_cons (f : Fr) (l : List Fr) : dwFs (f :: l) = dwF f + dwFs l := by simp [dwFs]
theorem dwR_write (r : Rw) (s : Bs) : dwR (r.write s) = dwR r + s.length := by simp [dwR, Rw.write]; omega
theorem dwL_flush (r : Rw) : dwL r.flush.sp = dwR r := by
  unfold Rw.flush
  split
  · rename_i h; simp [dwR, h]
  · rename_i h
    simp only [dwL_app, dwL, dw_txt h, dwR]; omega
theorem dwR_add (r : Rw) (x : Sp) : dwR (r.add x) ≤ dwR r + dw1 x := by
  obtain ⟨k, t, u, v, ks⟩ := x
  unfold Rw.add
  split
  · rename_i h
    rw [dwR_write, dw1, if_pos h]; simp only; omega
  · simp only [dwR, dwL_app, dwL, List.length_nil]
    rw [dwL_flush, dwR]; omega
theorem dwR_adds : ∀ (l : List Sp) (r : Rw), dwR (l.foldl Rw.add r) ≤ dwR r + dwL l
  | [], r => by simp [dwL]
  | x :: l, r => by
    have h1 := dwR_adds l (r.add x)
    have h2 := dwR_add r x
    simp only [List.foldl_cons, dwL]; omega
theorem dwR_spill (f : Fr) (r : Rw) : dwR (spill f r) ≤ dwR r + dwF f := by
  have := dwR_adds f.row.sp (r.write f.sign)
  rw [dwR_write] at this
  rw [spill, dwR_write, dwF, show dwR f.row = dwL f.row.sp + f.row.tx.length from rfl]
  omega
theorem dw_onTop {g : Rw → Rw} {n : Nat} (h : ∀ r, dwR (g r) ≤ dwR r + n) (l : List Fr) : dwFs (onTop g l) ≤ dwFs l + n := by
  cases l with
  | nil => simp [onTop]
  | cons f r =>
    have := h f.row
    simp only [onTop, dwFs_cons, dwF]
    omega
theorem dw_write (st : Pst) (s : Bs) : dwFs (st.write s).fs ≤ dwFs st.fs + s.length := dw_onTop (g := (·.write s)) (n := s.length) (fun r => by rw [dwR_write]; exact Nat.le_refl _) st.fs
theorem dw_drop1 (st : Pst) : dwFs st.drop1.fs ≤ dwFs st.fs := by
  obtain ⟨fs, fa⟩ := st
  match fs with
  | [] => exact Nat.le_refl _
  | [f] => exact Nat.le_refl _
  | f :: g :: r =>
    have := dw_onTop (dwR_spill f) (g :: r)
    simp only [Pst.drop1, dwFs_cons] at *
    omega
theorem dw_dropN : ∀ (n : Nat) (st : Pst), dwFs (st.dropN n).fs ≤ dwFs st.fs
  | 0, _ => Nat.le_refl _
  | n + 1, st => Nat.le_trans (dw_dropN n st.drop1) (dw_drop1 st)
theorem dw_fin (st : Pst) (n : Nat) : dwFs (st.fin n).fs ≤ dwFs st.fs + 1 := by
  have h := dw_dropN (st.fs.length - 1 - n) st
  unfold Pst.fin Pst.drop
  generalize st.dropN (st.fs.length - 1 - n) = sd at h
  obtain ⟨fs, fa⟩ := sd
  match fs, h with
  | [], h => simp only [Pst.shut] at *; omega
  | f :: r, h =>
    have e : dw1 ⟨f.kind, [], [], [], f.row.flush.sp⟩ = 1 + dwR f.row := by
      simp only [dw1, dwL_flush]; split <;> rfl
    have := dw_onTop (n := 1 + dwR f.row) (g := (·.add ⟨f.kind, [], [], [], f.row.flush.sp⟩)) (fun q => by rw [← e]; exact dwR_add q _) r
    simp only [Pst.shut, dwFs_cons, dwF] at *
    omega
theorem dw_between {st : Pst} {s a b : Bs} {i : Nat} {asf : Bs → Sp ⊕ Nat} (has : asf = codeS ∨ asf = refS ∨ asf = termS) (ha : 1 ≤ a.length) (hb : 1 ≤ b.length) (hi : i + a.length ≤ s.length) (h : dwFs st.fs ≤ i) : dwFs (st.between s i a b asf).1.fs ≤ (st.between s i a b asf).2 := by
  unfold Pst.between
  split
  · have := dw_write st a
    exact Nat.le_trans this (by simp only; omega)
  · rename_i n hn
    obtain ⟨h1, h2⟩ := nextAt_some hi hn
    split
    · have := dw_write st ((s.drop i).take (n + b.length - i))
      rw [List.length_take, List.length_drop] at this
      exact Nat.le_trans this (by simp only; omega)
    · rename_i x hx
      obtain ⟨_, p2, p3, _⟩ := as_wt has hx
      have e : dw1 x = 1 := by
        obtain ⟨k, t, u, v, ks⟩ := x
        simp only at p2 p3
        subst p3
        simp only [dw1, if_neg p2, dwL]
      have := dw_onTop (n := 1) (g := (·.add x)) (fun q => by rw [← e]; exact dwR_add q _) st.fs
      exact Nat.le_trans this (by simp only; omega)
theorem dw_begin (st : Pst) (k i : Nat) (sign : Bs) : dwFs (st.begin k i sign).fs = dwFs st.fs + sign.length := by
  simp only [Pst.begin, dwFs_cons, dwF, dwR, Rw.none, dwL, List.length_nil]; omega
theorem dw_mark {st : Pst} {s : Bs} {i k : Nat} (h : dwFs st.fs ≤ i) : dwFs (st.mark s i k).fs ≤ i + 1 := by
  unfold Pst.mark
  split
  · have := dw_fin st (lastK k st.fs); omega
  · split
    · have := dw_write st [s.getD i 0]; simp only [List.length_cons, List.length_nil] at this; omega
    · split
      · have := dw_write st [s.getD i 0]; simp only [List.length_cons, List.length_nil] at this; exact Nat.le_trans this (by omega)
      · rw [dw_begin]; simp only [List.length_cons, List.length_nil]; omega
theorem dw_step {st : Pst} {s : Bs} {i : Nat} (hi : i < s.length) (h : dwFs st.fs ≤ i) : dwFs (st.step s i).1.fs ≤ (st.step s i).2 := by
  unfold Pst.step
  split
  · have := dw_write st [s.getD (i + 1) 0]; simp only [List.length_cons, List.length_nil] at this; simp only; omega
  split
  · exact dw_between (.inl rfl) (by simp) (by simp) (by simp; omega) h
  split
  · rename_i hp; exact dw_between (.inr (.inl rfl)) (by simp) (by simp) (prefix_two hp) h
  split
  · rename_i hp; exact dw_between (.inr (.inr rfl)) (by simp) (by simp) (prefix_two hp) h
  split
  · simp only
    split
    · rw [dw_begin]; simp only [List.length_cons, List.length_nil]; omega
    · have := dw_write st [94, 91]; simp only [List.length_cons, List.length_nil] at this; exact Nat.le_trans this (by omega)
  split
  · have := dw_fin st (lastK 6 st.fs); simp only; omega
  split
  · exact dw_mark h
  split
  · exact dw_mark h
  · have := dw_write st [s.getD i 0]; simp only [List.length_cons, List.length_nil] at this; simp only; omega
theorem dw_run {s : Bs} : ∀ (n i : Nat) (st : Pst), Inv st i → dwFs st.fs ≤ i → i ≤ s.length → dwFs (runP s n i st).fs ≤ s.length
  | 0, i, st, _, h, hi => Nat.le_trans h hi
  | n + 1, i, st, hI, h, hi => by
    rw [runP]
    split
    · rename_i hlt
      obtain ⟨h3, h4, h5⟩ := hI.step hlt
      exact dw_run n _ _ h3 (dw_step hlt h) h5
    · exact Nat.le_trans h hi
theorem many_spans (s : Bs) : manyL (spansOf s) ≤ s.length := by
  have h := dw_run (s := s) s.length 0 Pst.first Inv.first (by decide) (Nat.zero_le _)
  have h2 := dw_dropN ((runP s s.length 0 Pst.first).fs.length - 1 - 0) (runP s s.length 0 Pst.first)
  obtain ⟨f, hf⟩ := endP_one s
  have h3 : dwFs (endP s).fs ≤ s.length := Nat.le_trans h2 h
  rw [hf, dwFs_cons] at h3
  unfold spansOf
  rw [hf]
  simp only
  have h4 := many_dwL f.row.flush.sp
  rw [dwL_flush] at h4
  unfold dwF at h3
  omega
theorem faultsOf_nil (s : Bs) : faultsOf s = [] ↔ faultsAt s = [] := by
  unfold faultsOf
  have := (sortF_perm (faultsAt s)).length_eq
  constructor
  · intro h
    rw [List.map_eq_nil_iff] at h
    rw [h] at this
    exact List.eq_nil_of_length_eq_zero this.symm
  · intro h
    rw [h]; rfl
end Go.Bd
namespace Go.Proofs.YtmdbhdhfdldegaaGreatDoor
open Go.RowKit Go.Bd
def textSV (o : Option Bs) : Value := match o with | some s => .tuple #[.string ⟨s.toArray⟩, .int .i64 0] | none => .tuple #[.string ⟨#[]⟩, .int .i64 1]
set_option maxRecDepth 100000 in
set_option maxHeartbeats 2000000 in
theorem textSpans_any (l : List Sp) (hm : manyL l ≤ 1000000000) (hw : wlL l ≤ 100000) (v : Value) (w : World) (m : Int) (hF : Forest w (· < w.heap.size) v l) (hc : w.cell? ⟨0, 0, none⟩ = some (.int .i64 m)) :
    Calls Tryz.prog 6 #[v] w fun e w' => e = .returned (textSV (textOf l)) ∧ Below w.heap.size w w' := by
  obtain ⟨A, c, rfl, hcc⟩ := hF.len
  have hB : 0 < w.heap.size := World.block_lt_of_cell? w _ hc
  have hbl := (Below.refl w.heap.size w).alloc (Nat.le_refl _) (.cells #[.pointer none, .slice none 0 0] 37)
  have cp := put_any _ l (Nat.le_refl _) hm (by omega) _ _ w.heap.size w.heap.size [] m (hF.under hbl (fun _ h => h)) (BldF.fresh w) (by simp only [List.length_nil]; omega) ((hbl.cell (p := ⟨0, 0, none⟩) hB).trans hc) hB
  have hpl := putF_len l
  have HT := Lib.hid (textOf_F l)
  have HF := Lib.hid hF
  have HC := Lib.hid hc
  obtain ⟨n, hn⟩ : ∃ n, l.length = n := ⟨_, rfl⟩
  obtain ⟨ok, hok⟩ : ∃ ok, (putF l).2 = ok := ⟨_, rfl⟩
  obtain ⟨out, hout⟩ : ∃ out, (putF l).1 = out := ⟨_, rfl⟩
  rw [hok, hout] at HT cp
  rw [hout] at hpl
  simp only [hn] at HF cp ⊢
  clear hF hc hn hok hout hcc hbl
  simp only [List.nil_append] at cp
  cases ok with
  | false =>
    have HT2 : Hid (textOf l = none) := by unfold Hid; rw [HT.out, if_neg (by simp)]
    go_enter Tryz.func6, Tryz.ntmps6
    go_wp2_with fail
    refine cp.mono ?_
    clear cp
    rintro e w2 ⟨rfl, hI2, hb2, hk2⟩
    have HB2 := Lib.hid (((Below.refl w.heap.size w).alloc (Nat.le_refl _) (.cells #[.pointer none, .slice none 0 0] 37)).trans hb2)
    clear hI2 hb2 hk2
    go_wp2
    go_ret2
    exact ⟨by rw [HT2.out]; rfl, HB2.out⟩
  | true =>
    have HFN := Lib.hid (faultsOf_nil out)
    have hms := many_spans out
    go_enter Tryz.func6, Tryz.ntmps6
    go_wp2_with fail
    refine cp.mono ?_
    clear cp
    rintro e w2 ⟨rfl, hI2, hb2, hk2⟩
    have hs2 := hb2.size
    simp only [World.size_alloc] at hs2
    have cst := bldF_string w.heap.size w.heap.size out w2 hI2 (by omega)
    have HB2 := Lib.hid (((Below.refl w.heap.size w).alloc (Nat.le_refl _) (.cells #[.pointer none, .slice none 0 0] 37)).trans hb2)
    clear hI2 hb2 hk2
    go_wp2_with fail
    refine cst.mono ?_
    clear cst
    rintro e w3 ⟨rfl, hb3⟩
    have HB3 := Lib.hid (HB2.out.trans hb3)
    have hs3 := hb3.size
    have cpa := parseSpans_any ⟨out.toArray⟩ w3 (by rw [size_mk]; omega) m ((HB3.out.cell (p := ⟨0, 0, none⟩) hB).trans HC.out)
    simp only [List.toList_toArray] at cpa
    clear hb3
    go_wp2_with fail
    refine cpa.mono ?_
    clear cpa
    rintro e w4 ⟨sv, fv, rfl, hb4, hf4, hr4⟩
    have HB4 := Lib.hid (HB3.out.trans (hb4.mono (by omega)))
    have hs4 := hb4.size
    obtain ⟨Af, cf, rfl, hlf⟩ := own_slice2 hr4
    clear hr4 hb4
    by_cases hfe : faultsOf out = []
    · have h0 : (faultsOf out).length = 0 := by rw [hfe]; rfl
      have HFE := Lib.hid (HFN.out.1 hfe)
      rw [h0]
      clear hfe h0 hlf
      have csm := same_any (manyL (spansOf out)) (spansOf out) l (Nat.le_refl _) (by omega) sv (.slice A n c) w4 w4.heap.size hf4 ((HF.out.under HB4.out (fun _ h => h)).keep (fun b hb => by omega) (fun _ _ _ h => h)) (Nat.le_refl _)
      obtain ⟨A4, c4, rfl, _⟩ := hf4.len
      generalize (spansOf out).length = n4 at csm
      cases hsm : sameL (spansOf out) l with
      | true =>
        have HT2 : Hid (textOf l = some out) := by unfold Hid; rw [HT.out, if_pos ⟨by trivial, HFE.out, hsm⟩]
        rw [hsm] at csm
        clear hf4 hsm
        go_wp2_with fail
        refine csm.mono ?_
        clear csm
        rintro e w5 ⟨rfl, hb5⟩
        have HB5 := Lib.hid (HB4.out.trans (hb5.mono (by omega)))
        clear hb5
        go_wp2
        go_ret2
        exact ⟨by rw [HT2.out]; rfl, HB5.out⟩
      | false =>
        have HT2 : Hid (textOf l = none) := by unfold Hid; rw [HT.out, if_neg (by rw [hsm]; simp)]
        rw [hsm] at csm
        clear hf4 hsm
        go_wp2_with fail
        refine csm.mono ?_
        clear csm
        rintro e w5 ⟨rfl, hb5⟩
        have HB5 := Lib.hid (HB4.out.trans (hb5.mono (by omega)))
        clear hb5
        go_wp2
        go_ret2
        exact ⟨by rw [HT2.out]; rfl, HB5.out⟩
    · have h0 : 0 < (faultsOf out).length := List.length_pos_iff.2 hfe
      have HT2 : Hid (textOf l = none) := by unfold Hid; rw [HT.out, if_neg (fun h => hfe (HFN.out.2 h.2.1))]
      obtain ⟨A4, c4, rfl, _⟩ := hf4.len
      generalize (faultsOf out).length = nf at h0 hlf ⊢
      clear hfe hf4
      go_wp2
      go_ret2
      exact ⟨by rw [HT2.out]; rfl, HB4.out⟩
end Go.Proofs.YtmdbhdhfdldegaaGreatDoor
namespace Go.Proofs.YtmdbhdhfdldegaaGreatDoor
open Go.RowKit Go.Bd
set_option maxRecDepth 100000 in
set_option maxHeartbeats 2000000 in
theorem refTextS_any (l : List Sp) (hm : manyL l ≤ 1000000000) (hw : wlL l ≤ 80000) (v : Value) (w : World) (B : Nat) (hF : Forest w (· < B) v l) (hB : B ≤ w.heap.size) :
    Calls Tryz.prog 7 #[v] w fun e w' => e = .returned (textSV (textOf l)) ∧ Below B w w' := by
  obtain ⟨A, c, rfl, hcc⟩ := hF.len
  have cw := wr_any _ l (Nat.le_refl _) hm (by omega) _ w B hF hB
  have hl := wrL_len l
  have HF := Lib.hid hF
  have HT : Hid (textOf l = if faultsAt (wrL l) = [] ∧ sameL (spansOf (wrL l)) l = true then some (wrL l) else none) := Lib.hid (refTextOf_eq l).symm
  obtain ⟨out, hout⟩ : ∃ out, wrL l = out := ⟨_, rfl⟩
  rw [hout] at HT cw hl
  obtain ⟨n, hn⟩ : ∃ n, l.length = n := ⟨_, rfl⟩
  simp only [hn] at HF cw ⊢
  have hms := many_spans out
  clear hF hout hn hcc
  go_enter Tryz.func7, Tryz.ntmps7
  go_wp2_with fail
  refine cw.mono ?_
  clear cw
  rintro e w1 ⟨rfl, hb1⟩
  have hs1 := hb1.size
  have HB1 := Lib.hid hb1
  have cpa := rparse_any ⟨out.toArray⟩ w1 (by rw [size_mk]; omega)
  simp only [List.toList_toArray] at cpa
  clear hb1
  go_wp2_with fail
  refine cpa.mono ?_
  clear cpa
  rintro e w2 ⟨sv, fv, rfl, hb2, hF2, xs, ho2⟩
  have HB2 := Lib.hid (HB1.out.trans (hb2.mono (by omega)))
  have hs2 := hb2.size
  obtain ⟨Af, cf, rfl, hlf⟩ := own_slice2 ho2
  clear ho2 hb2
  by_cases hfe : faultsAt out = []
  · have h0 : (faultsAt out).length = 0 := by rw [hfe]; rfl
    have HFE := Lib.hid hfe
    rw [h0]
    clear hfe h0 hlf
    have HSM : Hid (Calls Tryz.prog 18 #[sv, .slice A n c] w2 fun e w' => e = .returned (.bool (sameL (spansOf out) l)) ∧ ∃ d', w' = w2.drewN d') :=
      rsame_any (manyL (spansOf out)) (spansOf out) l (Nat.le_refl _) (by omega) sv (.slice A n c) w2 _ _ hF2 (HF.out.under HB2.out (fun _ h => h))
    obtain ⟨A4, c4, rfl, _⟩ := hF2.len
    generalize (spansOf out).length = n4 at HSM
    cases hsm : sameL (spansOf out) l with
    | true =>
      have HT2 : Hid (textOf l = some out) := by unfold Hid; rw [HT.out, if_pos ⟨HFE.out, hsm⟩]
      rw [hsm] at HSM
      clear hF2 hsm
      go_wp2_with fail
      refine HSM.out.mono ?_
      rintro e w5 ⟨rfl, d5, rfl⟩
      go_wp2
      go_ret2
      exact ⟨by rw [HT2.out]; rfl, HB2.out.trans (((Chg.refl w2 (fun _ => False)).drewN d5).toBelow (by omega) (fun _ h => h.elim))⟩
    | false =>
      have HT2 : Hid (textOf l = none) := by unfold Hid; rw [HT.out, if_neg (fun h => by rw [hsm] at h; cases h.2)]
      rw [hsm] at HSM
      clear hF2 hsm
      go_wp2_with fail
      refine HSM.out.mono ?_
      rintro e w5 ⟨rfl, d5, rfl⟩
      go_wp2
      go_ret2
      exact ⟨by rw [HT2.out]; rfl, HB2.out.trans (((Chg.refl w2 (fun _ => False)).drewN d5).toBelow (by omega) (fun _ h => h.elim))⟩
  · have HT2 : Hid (textOf l = none) := by unfold Hid; rw [HT.out, if_neg (fun h => hfe h.1)]
    obtain ⟨nf, hnf⟩ : ∃ nf, (faultsAt out).length = nf := ⟨_, rfl⟩
    have h0 : 0 < nf := by
      have := List.length_pos_iff.2 hfe
      omega
    rw [hnf]
    have hd : decide ((0 : Int) < (nf : Int)) = true := decide_eq_true (by omega)
    obtain ⟨A4, c4, rfl, _⟩ := hF2.len
    clear hfe hnf hF2
    go_wp2_with fail
    go_ret2
    exact ⟨by rw [HT2.out]; rfl, HB2.out⟩
end Go.Proofs.YtmdbhdhfdldegaaGreatDoor
namespace Go.Bd
mutual
def sz1 : Sp → Nat
  | ⟨_, t, u, v, kids⟩ => 1 + t.length + u.length + v.length + szL kids
def szL : List Sp → Nat
  | [] => 0
  | x :: l => 1 + sz1 x + szL l
end
mutual
def dp1 : Sp → Nat
  | ⟨_, _, _, _, kids⟩ => 1 + dpL kids
def dpL : List Sp → Nat
  | [] => 0
  | x :: l => max (dp1 x) (dpL l)
end
theorem szL_app : ∀ a b : List Sp, szL (a ++ b) = szL a + szL b
  | [], b => by simp [szL]
  | x :: a, b => by rw [List.cons_append, szL, szL, szL_app a b]; omega
theorem szL_take {l : List Sp} {k : Nat} {x : Sp} (h : l[k]? = some x) : szL (l.take (k + 1)) = szL (l.take k) + (1 + sz1 x) := by
  rw [List.take_add_one, h, szL_app]; simp [szL]
theorem szL_le {l : List Sp} {k : Nat} : szL (l.take k) ≤ szL l := by
  have := szL_app (l.take k) (l.drop k)
  rw [List.take_append_drop] at this
  omega
theorem sz_get {l : List Sp} {k : Nat} {x : Sp} (h : l[k]? = some x) : szL (l.take k) + 1 + sz1 x ≤ szL l := by
  have h1 := szL_take h
  have h2 := szL_le (l := l) (k := k + 1)
  omega
theorem sz1_eq (x : Sp) : sz1 x = 1 + x.text.length + x.sub.length + x.see.length + szL x.kids := by
  obtain ⟨k, t, u, v, ks⟩ := x; simp only [sz1]
theorem szL_len : ∀ l : List Sp, l.length ≤ szL l
  | [] => Nat.zero_le _
  | x :: l => by have := szL_len l; simp only [szL, List.length_cons]; omega
theorem dp1_eq (x : Sp) : dp1 x = 1 + dpL x.kids := by obtain ⟨k, t, u, v, ks⟩ := x; simp only [dp1]
theorem dpL_app : ∀ a b : List Sp, dpL (a ++ b) = max (dpL a) (dpL b)
  | [], b => by simp [dpL]
  | x :: a, b => by rw [List.cons_append, dpL, dpL, dpL_app a b, Nat.max_assoc]
theorem dpL_take {l : List Sp} {k : Nat} {x : Sp} (h : l[k]? = some x) : dpL (l.take (k + 1)) = max (dpL (l.take k)) (dp1 x) := by
  rw [List.take_add_one, h, dpL_app]; simp [dpL]
theorem dpL_le {l : List Sp} {k : Nat} : dpL (l.take k) ≤ dpL l := by
  have := dpL_app (l.take k) (l.drop k)
  rw [List.take_append_drop] at this
  omega
mutual
theorem dp_sz1 : ∀ x : Sp, dp1 x ≤ sz1 x
  | ⟨_, _, _, _, kids⟩ => by have := dp_szL kids; simp only [dp1, sz1]; omega
theorem dp_szL : ∀ l : List Sp, dpL l ≤ szL l
  | [] => Nat.le_refl _
  | x :: l => by have := dp_sz1 x; have := dp_szL l; simp only [dpL, szL]; omega
end
end Go.Bd
namespace Go.Bd
def styC (c : UInt8) : Bool := !(c == 96 || c == 60 || c == 40 || c == 94 || c == 93 || c == 92)
def join (R0 r : Rw) : Rw := match r.sp with
  | [] => ⟨R0.sp, R0.tx ++ r.tx⟩
  | x :: l => if x.kind = 0 then ⟨R0.sp ++ txt (R0.tx ++ x.text) :: l, r.tx⟩ else ⟨R0.sp ++ txt R0.tx :: x :: l, r.tx⟩
def Fr.on (f : Fr) (k : Nat) : Fr := { f with at' := f.at' + k }
def behind (R0 : Fr) (k : Nat) : List Fr → List Fr
  | [] => []
  | [f] => [{ R0 with row := join R0.row f.row }]
  | f :: g :: r => f.on k :: behind R0 k (g :: r)
def after (R0 : Fr) (k : Nat) (st : Pst) : Pst := ⟨behind R0 k st.fs, st.faults.map fun p => (p.1 + k, p.2)⟩
section
variable {u t : Bs} {R0 : Fr}
end
end Go.Bd
namespace Go.Bd
open Go.RowKit
theorem Forest.later {w w' : World} {v : Value} {l : List Sp} (h : Forest w (· < w.heap.size) v l) (hb : Below w.heap.size w w') : Forest w' (· < w'.heap.size) v l :=
  (h.under hb (fun _ h => h)).keep (fun b hx => by have h1 : b < w.heap.size := hx; have h2 := hb.size; show b < w'.heap.size; omega) (fun _ _ _ h => h)
mutual
theorem wl_sz1 : ∀ x : Sp, wl1 x ≤ 6 * sz1 x
  | ⟨_, _, _, _, kids⟩ => by have := wl_szL kids; simp only [wl1, sz1]; omega
theorem wl_szL : ∀ l : List Sp, wlL l ≤ 6 * szL l
  | [] => Nat.le_refl _
  | x :: l => by have := wl_sz1 x; have := wl_szL l; simp only [wlL, szL]; omega
end
mutual
theorem many_sz1 : ∀ x : Sp, many1 x ≤ sz1 x
  | ⟨_, _, _, _, kids⟩ => by have := many_szL kids; simp only [many1, sz1]; omega
theorem many_szL : ∀ l : List Sp, manyL l ≤ szL l
  | [] => Nat.le_refl _
  | x :: l => by have := many_sz1 x; have := many_szL l; simp only [manyL, szL]; omega
end
end Go.Bd
namespace Go.Proofs.YtmdbhdhfdldegaaGreatDoor
open Go.RowKit Go.Bd
def SizeOk (N : Nat) : Prop := ∀ (l : List Sp), szL l ≤ N → szL l ≤ 1048576 → ∀ (v : Value) (w : World) (B : Nat), Forest w (· < B) v l → B ≤ w.heap.size →
    Calls Tryz.prog 9 #[v] w fun e w' => e = .returned (.int .i64 (szL l : Int)) ∧ Below B w w'
set_option maxRecDepth 100000 in
set_option maxHeartbeats 2000000 in
theorem size1_any {N : Nat} (ih : SizeOk N) (x : Sp) (hN : szL x.kids ≤ N) (hz : sz1 x ≤ 1048576) (v : Value) (w : World) (B : Nat) (hF : Forest w (· < B) v x.kids) (hB : B ≤ w.heap.size) :
    Calls Tryz.prog 20 #[.agg #[.int .u8 (x.kind : Int), .string ⟨x.text.toArray⟩, .string ⟨x.sub.toArray⟩, .string ⟨x.see.toArray⟩, v]] w fun e w' => e = .returned (.int .i64 (sz1 x : Int)) ∧ Below B w w' := by
  obtain ⟨A, c, rfl, hc⟩ := hF.len
  have hs := sz1_eq x
  have hal := (Below.refl B w).alloc hB (.cells #[.int .u8 (x.kind : Int), .string ⟨x.text.toArray⟩, .string ⟨x.sub.toArray⟩, .string ⟨x.see.toArray⟩, .slice A x.kids.length c] 32)
  have ci := ih x.kids hN (by omega) _ _ B (hF.under hal (fun _ h => h)) (by simp; omega)
  have HAL := Lib.hid hal
  generalize szL x.kids = kz at ci hs hN
  generalize sz1 x = z at hs hz ⊢
  have z1 : (⟨x.text.toArray⟩ : ByteArray).size = x.text.length := size_mk _
  have z2 : (⟨x.sub.toArray⟩ : ByteArray).size = x.sub.length := size_mk _
  have z3 : (⟨x.see.toArray⟩ : ByteArray).size = x.see.length := size_mk _
  clear hF hal ih
  generalize (⟨x.text.toArray⟩ : ByteArray) = b1 at z1 ci HAL ⊢
  generalize (⟨x.sub.toArray⟩ : ByteArray) = b2 at z2 ci HAL ⊢
  generalize (⟨x.see.toArray⟩ : ByteArray) = b3 at z3 ci HAL ⊢
  have hle : (1 : Int) + b1.size + b2.size + b3.size ≤ 1048576 := by omega
  have hz' : (1 : Int) + b1.size + b2.size + b3.size + kz = z := by omega
  have HZ := Lib.hid hz'
  clear hz' hs
  generalize x.kids.length = kl at ci hc HAL ⊢
  go_enter Tryz.func20, Tryz.ntmps20
  go_wp2_with fail
  refine ci.mono ?_
  clear ci
  rintro e w2 ⟨rfl, hb2⟩
  have HB2 := Lib.hid (HAL.out.trans hb2)
  clear hb2
  go_wp2
  go_ret
  have hzz := HZ.out
  rw [z1, z2, z3] at hzz
  exact ⟨by rw [← hzz]; exact congrArg (fun x => Ending.returned (Value.int .i64 x)) (IntWalk.wrap64_in _ (by omega)), HB2.out⟩
set_option maxRecDepth 100000 in
set_option maxHeartbeats 2000000 in
theorem size_step {N : Nat} (ih : ∀ M, M < N → SizeOk M) : SizeOk N := by
  intro l hN hz v w B hF hB
  obtain ⟨A, c, rfl, hc⟩ := hF.len
  have hlm := szL_len l
  have HF := Lib.hid hF
  have HIH := Lib.hid ih
  clear hF ih
  obtain ⟨n, hn⟩ : ∃ n, l.length = n := ⟨_, rfl⟩
  obtain ⟨mm, hmm⟩ : ∃ mm, szL l = mm := ⟨_, rfl⟩
  have HN := Lib.hid hn
  have HMM := Lib.hid hmm
  simp only [hn, hmm] at hc hlm hN hz HF ⊢
  clear hn hmm
  go_enter Tryz.func9, Tryz.ntmps9
  go_wp2
  go_loopg [3, 4] n (fun q vn vi wr => ∃ k a : Nat, k + q = n ∧ vi = .int .i64 (k : Int) ∧ vn = .int .i64 (a : Int) ∧ a ≤ mm ∧ Hid (a + k = n + szL (l.take k) ∧ Below B w wr))
  case atStart => exact ⟨0, n, by omega, rfl, rfl, hlm, by simp [szL], Below.refl _ _⟩
  case round =>
    obtain ⟨k, a, hk, rfl, rfl, ham, HR⟩ := hrel
    by_cases hlt : k < n
    · obtain ⟨x, hx⟩ : ∃ x, l[k]? = some x := ⟨_, List.getElem?_eq_getElem (by rw [HN.out]; exact hlt)⟩
      obtain ⟨b1, off, kA, kc, rfl, hb1, hkF, p0, p1, p2, p3, p4⟩ := HF.out.at hx
      have hbl := HR.out.2
      replace p0 := (hbl.cell (p := ⟨b1, off + k * 5, none⟩) hb1).trans p0
      replace p1 := (hbl.cell (p := ⟨b1, off + k * 5 + 1, none⟩) hb1).trans p1
      replace p2 := (hbl.cell (p := ⟨b1, off + k * 5 + 2, none⟩) hb1).trans p2
      replace p3 := (hbl.cell (p := ⟨b1, off + k * 5 + 3, none⟩) hb1).trans p3
      replace p4 := (hbl.cell (p := ⟨b1, off + k * 5 + 4, none⟩) hb1).trans p4
      have hgt := sz_get hx
      rw [HMM.out] at hgt
      have hrb := hbl.size
      have htk := szL_take hx
      have hbd : szL (l.take (k + 1)) + n ≤ mm + (k + 1) := by
        have e := szL_app (l.take (k + 1)) (l.drop (k + 1))
        rw [List.take_append_drop, HMM.out] at e
        have h2 := szL_len (l.drop (k + 1))
        rw [List.length_drop, HN.out] at h2
        omega
      have hx1 := sz1_eq x
      have ci := size1_any (HIH.out (szL x.kids) (by omega)) x (Nat.le_refl _) (by omega) _ wr B (hkF.under hbl (fun _ h => h)) (by omega)
      have hsum : a + sz1 x + (k + 1) = n + szL (l.take (k + 1)) := by have := HR.out.1; omega
      have HSM := Lib.hid hsum
      have ham2 : a + sz1 x ≤ mm := by omega
      have ham3 : (a : Int) ≤ 1048576 := by omega
      generalize sz1 x = mk at ci ham2 HSM
      clear hx hkF hbl htk hbd hgt hsum hx1
      go_wp2_with fail
      refine ci.mono ?_
      clear ci
      rintro e w2 ⟨rfl, hb2⟩
      have HB2 := Lib.hid (HR.out.2.trans hb2)
      clear hb2
      go_wp2
      go_roundg (gk - 1)
      case measure => omega
      case rel => exact ⟨k + 1, a + mk, by omega, by go_num, by go_num, ham2, HSM.out, HB2.out⟩
    · obtain rfl : k = n := by omega
      have ha : a = mm := by
        have h1 := HR.out.1
        rw [List.take_of_length_le (by rw [HN.out]; exact Nat.le_refl _), HMM.out] at h1
        omega
      subst ha
      go_wp2
      go_ret
      exact ⟨rfl, HR.out.2⟩
theorem size_any (N : Nat) : SizeOk N := by
  induction N using Nat.strongRecOn with
  | _ N ih => exact size_step ih
def DeepOk (N : Nat) : Prop := ∀ (l : List Sp), manyL l ≤ N → manyL l ≤ 1048576 → ∀ (v : Value) (w : World) (B : Nat), Forest w (· < B) v l → B ≤ w.heap.size →
    Calls Tryz.prog 10 #[v] w fun e w' => e = .returned (.int .i64 (dpL l : Int)) ∧ Below B w w'
mutual
theorem dp_many1 : ∀ x : Sp, dp1 x ≤ many1 x
  | ⟨_, _, _, _, kids⟩ => by have := dp_manyL kids; simp only [dp1, many1]; omega
theorem dp_manyL : ∀ l : List Sp, dpL l ≤ manyL l
  | [] => Nat.le_refl _
  | x :: l => by have := dp_many1 x; have := dp_manyL l; simp only [dpL, manyL]; omega
end
set_option maxRecDepth 100000 in
set_option maxHeartbeats 2000000 in
theorem deep_step {N : Nat} (ih : ∀ M, M < N → DeepOk M) : DeepOk N := by
  intro l hN hm v w B hF hB
  obtain ⟨A, c, rfl, hc⟩ := hF.len
  have hlm := many_len l
  have hdm := dp_manyL l
  have HF := Lib.hid hF
  have HIH := Lib.hid ih
  clear hF ih
  obtain ⟨n, hn⟩ : ∃ n, l.length = n := ⟨_, rfl⟩
  obtain ⟨mm, hmm⟩ : ∃ mm, dpL l = mm := ⟨_, rfl⟩
  have HN := Lib.hid hn
  have HMM := Lib.hid hmm
  simp only [hn, hmm] at hc hlm hdm HF ⊢
  clear hn hmm
  go_enter Tryz.func10, Tryz.ntmps10
  go_wp2
  go_loopg [3, 4] n (fun q vn vi wr => ∃ k a : Nat, k + q = n ∧ vi = .int .i64 (k : Int) ∧ vn = .int .i64 (a : Int) ∧ a ≤ mm ∧ Hid (a = dpL (l.take k) ∧ Below B w wr))
  case atStart => exact ⟨0, 0, by omega, rfl, rfl, Nat.zero_le _, by simp [dpL], Below.refl _ _⟩
  case round =>
    obtain ⟨k, a, hk, rfl, rfl, ham, HR⟩ := hrel
    by_cases hlt : k < n
    · obtain ⟨x, hx⟩ : ∃ x, l[k]? = some x := ⟨_, List.getElem?_eq_getElem (by rw [HN.out]; exact hlt)⟩
      obtain ⟨b1, off, kA, kc, rfl, hb1, hkF, p0, p1, p2, p3, p4⟩ := HF.out.at hx
      have hbl := HR.out.2
      replace p4 := (hbl.cell (p := ⟨b1, off + k * 5 + 4, none⟩) hb1).trans p4
      have hgt := many_get hx
      have hrb := hbl.size
      have htk := dpL_take hx
      have hx1 := dp1_eq x
      have hle := dpL_le (l := l) (k := k + 1)
      rw [HMM.out] at hle
      have ci := HIH.out (manyL x.kids) (by omega) x.kids (Nat.le_refl _) (by omega) _ wr B (hkF.under hbl (fun _ h => h)) (by omega)
      have hsum : max a (1 + dpL x.kids) = dpL (l.take (k + 1)) := by rw [htk, hx1, HR.out.1]
      have HSM := Lib.hid hsum
      have hmx : max a (1 + dpL x.kids) ≤ mm := by omega
      generalize dpL x.kids = dk at ci HSM hmx
      clear hx hkF hbl htk hle hgt hsum hx1 p0 p1 p2 p3
      go_wp2_with fail
      refine ci.mono ?_
      clear ci
      rintro e w2 ⟨rfl, hb2⟩
      have HB2 := Lib.hid (HR.out.2.trans hb2)
      clear hb2
      go_wp2
      go_roundg (gk - 1)
      case measure => omega
      case rel => exact ⟨k + 1, max a (1 + dk), by omega, by go_num, by go_num, hmx, HSM.out, HB2.out⟩
    · obtain rfl : k = n := by omega
      have ha : a = mm := by
        have h1 := HR.out.1
        rw [List.take_of_length_le (by rw [HN.out]; exact Nat.le_refl _), HMM.out] at h1
        exact h1
      subst ha
      go_wp2
      go_ret
      exact ⟨rfl, HR.out.2⟩
theorem deep_any (N : Nat) : DeepOk N := by
  induction N using Nat.strongRecOn with
  | _ N ih => exact deep_step ih
def greatB (l : List Sp) : Bool := decide (1000 < l.length) || (decide (4000 < szL l) || decide (20000 < szL l * dpL l))
set_option maxRecDepth 100000 in
set_option maxHeartbeats 2000000 in
theorem great_any (l : List Sp) (hz : szL l ≤ 1048576) (v : Value) (w : World) (hF : Forest w (· < w.heap.size) v l) :
    Calls Tryz.prog 4 #[v] w fun e w' => e = .returned (.bool (greatB l)) ∧ Below w.heap.size w w' := by
  obtain ⟨A, c, rfl, hc⟩ := hF.len
  have hlm := szL_len l
  have hdm := dp_szL l
  have hms := many_szL l
  have cs := size_any _ l (Nat.le_refl _) hz _ w _ hF (Nat.le_refl _)
  have HF := Lib.hid hF
  have CS := Lib.hid (fun w' h => size_any _ l (Nat.le_refl _) hz (.slice A l.length c) w' _ h (Nat.le_refl w'.heap.size))
  have CD := Lib.hid (fun w' h => deep_any _ l (Nat.le_refl _) (by omega) (.slice A l.length c) w' _ h (Nat.le_refl w'.heap.size))
  have HG : Hid (greatB l = (decide (1000 < l.length) || (decide (4000 < szL l) || decide (20000 < szL l * dpL l)))) := rfl
  obtain ⟨n, hn⟩ : ∃ n, l.length = n := ⟨_, rfl⟩
  simp only [hn] at hc hlm cs HF CS CD HG ⊢
  generalize szL l = z at hz hlm hdm hms cs CS HG
  generalize dpL l = d at hdm CD HG
  clear hn hF hms
  rcases Nat.lt_or_ge 1000 n with h1 | h1
  · have e1 : greatB l = true := by rw [HG.out, decide_eq_true h1]; rfl
    have E1 := Lib.hid e1
    clear e1
    go_enter Tryz.func4, Tryz.ntmps4
    go_wp2
    go_ret
    exact ⟨by rw [E1.out]; rfl, Below.refl _ _⟩
  · rcases Nat.lt_or_ge 4000 z with h2 | h2
    · have e1 : greatB l = true := by rw [HG.out, decide_eq_true h2]; simp
      have E1 := Lib.hid e1
      clear e1
      go_enter Tryz.func4, Tryz.ntmps4
      go_wp2_with fail
      refine cs.mono ?_
      clear cs
      rintro e w2 ⟨rfl, hb2⟩
      have HB2 := Lib.hid hb2
      clear hb2
      go_wp2
      go_ret
      exact ⟨by rw [E1.out]; rfl, HB2.out⟩
    · have e1 : greatB l = decide (20000 < z * d) := by rw [HG.out, decide_eq_false (by omega), decide_eq_false (by omega)]; rfl
      have E1 := Lib.hid e1
      have hzd : z * d ≤ 16000000 := Nat.mul_le_mul (show z ≤ 4000 by omega) (show d ≤ 4000 by omega)
      obtain ⟨P, hP⟩ : ∃ P : Nat, z * d = P := ⟨_, rfl⟩
      have hzd' : (z : Int) * (d : Int) = (P : Int) := by rw [← hP]; push_cast; rfl
      rw [hP] at hzd E1
      clear hP
      clear e1
      go_enter Tryz.func4, Tryz.ntmps4
      go_wp2_with fail
      refine cs.mono ?_
      clear cs
      rintro e w2 ⟨rfl, hb2⟩
      have cs2 := CS.out w2 (Forest.later HF.out hb2)
      have HF2 := Lib.hid (Forest.later HF.out hb2)
      have hs2 := hb2.size
      have HB2 := Lib.hid hb2
      clear hb2
      go_wp2_with fail
      refine cs2.mono ?_
      clear cs2
      rintro e w3 ⟨rfl, hb3⟩
      have cd := CD.out w3 (Forest.later HF2.out hb3)
      have hs3 := hb3.size
      have HB3 := Lib.hid (HB2.out.trans (hb3.mono (by omega)))
      clear hb3
      go_wp2_with fail
      refine cd.mono ?_
      clear cd
      rintro e w4 ⟨rfl, hb4⟩
      have HB4 := Lib.hid (HB3.out.trans (hb4.mono (by omega)))
      clear hb4
      go_wp2
      go_ret
      exact ⟨ret_bool (by rw [E1.out, Bool.eq_iff_iff]; simp; omega), HB4.out⟩
end Go.Proofs.YtmdbhdhfdldegaaGreatDoor
namespace Go.Bd
open Go.RowKit
def spareB : Bs := [115, 112, 97, 114, 101]
def markCells : List Value := [.int .u8 0, strV spareB, strV [], strV [], .slice none 0 0]
inductive Marked (w : World) (F : Nat → Prop) : Value → List Sp → Prop
  | mk (g c : Nat) (l : List Sp) (kvs : List Value) (hlen : kvs.length = l.length) (hc : l.length < c) (hF : F g)
      (hA : ∀ (j : Nat) x kv, l[j]? = some x → kvs[j]? = some kv → ∀ (i : Nat) u, (spCells x kv)[i]? = some u → w.cell? ⟨g, j * 5 + i, none⟩ = some u)
      (hS : ∀ (i : Nat) u, markCells[i]? = some u → w.cell? ⟨g, l.length * 5 + i, none⟩ = some u)
      (hk : ∀ (j : Nat) x kv, l[j]? = some x → kvs[j]? = some kv → Marked w F kv x.kids) : Marked w F (.slice (some ⟨g, 0, none⟩) l.length c) l
section
variable {w w' : World} {F G : Nat → Prop} {v : Value} {l : List Sp}
theorem Marked.keep (h : Marked w F v l) (hk : ∀ b, F b → G b) (hc : ∀ (p : Addr) u, F p.block → w.cell? p = some u → w'.cell? p = some u) : Marked w' G v l := by
  induction h with
  | mk g c l kvs hlen hcap hF hA hS _ ih =>
    exact .mk g c l kvs hlen hcap (hk g hF) (fun j x kv e1 e2 i u e3 => hc ⟨g, j * 5 + i, none⟩ u hF (hA j x kv e1 e2 i u e3)) (fun i u e => hc ⟨g, l.length * 5 + i, none⟩ u hF (hS i u e)) (fun j x kv e1 e2 => ih j x kv e1 e2)
theorem Marked.chg {S : Nat → Prop} (h : Marked w F v l) (hc : Chg w w' S) (hk : ∀ b, F b → G b) (hS : ∀ b, F b → ¬ S b) : Marked w' G v l :=
  h.keep hk fun _ _ hF hu => hc.cell (hS _ hF) hu
theorem Marked.under {B : Nat} (h : Marked w F v l) (hb : Below B w w') (hF : ∀ b, F b → b < B) : Marked w' F v l :=
  h.keep (fun _ h => h) fun p u hp hu => (hb.cell (hF _ hp)).trans hu
theorem Marked.forest (h : Marked w F v l) : Forest w F v l := by
  induction h with
  | mk g c l kvs hlen hcap hF hA hS _ ih =>
    exact .mk (some ⟨g, 0, none⟩) c l kvs hlen (Nat.le_of_lt hcap) (fun _ => ⟨g, 0, rfl, hF, fun j x kv e1 e2 i u e3 => by rw [Nat.zero_add]; exact hA j x kv e1 e2 i u e3⟩) (fun j x kv e1 e2 => ih j x kv e1 e2)
theorem Marked.form (h : Marked w F v l) : ∃ g c, v = .slice (some ⟨g, 0, none⟩) l.length c ∧ l.length < c ∧ F g ∧
    (∀ (i : Nat) u, markCells[i]? = some u → w.cell? ⟨g, l.length * 5 + i, none⟩ = some u) ∧
    ∀ (j : Nat) x, l[j]? = some x → ∃ kv, Marked w F kv x.kids ∧
      w.cell? ⟨g, j * 5, none⟩ = some (.int .u8 (x.kind : Int)) ∧ w.cell? ⟨g, j * 5 + 1, none⟩ = some (strV x.text) ∧ w.cell? ⟨g, j * 5 + 2, none⟩ = some (strV x.sub) ∧ w.cell? ⟨g, j * 5 + 3, none⟩ = some (strV x.see) ∧ w.cell? ⟨g, j * 5 + 4, none⟩ = some kv := by
  cases h with
  | mk g c l kvs hlen hcap hF hA hS hk =>
    refine ⟨g, c, rfl, hcap, hF, hS, fun j x hx => ?_⟩
    have hj : j < l.length := (List.getElem?_eq_some_iff.1 hx).1
    obtain ⟨kv, hkv⟩ : ∃ kv, kvs[j]? = some kv := ⟨_, List.getElem?_eq_getElem (by omega)⟩
    exact ⟨kv, hk j x kv hx hkv, hA j x kv hx hkv 0 _ rfl, hA j x kv hx hkv 1 _ rfl, hA j x kv hx hkv 2 _ rfl, hA j x kv hx hkv 3 _ rfl, hA j x kv hx hkv 4 _ rfl⟩
theorem twin_of_row {B : Nat} {t : TypeId} {g cap : Nat} {kvs : List Value} (hkl : kvs.length = l.length) (hro : w.ownsRow B t 5 (.slice (some ⟨g, 0, none⟩) (l.length + 1) cap) (l.length + 1) (rowCells l kvs ++ markCells)) (hF : F g)
    (hk : ∀ (j : Nat) x kv, l[j]? = some x → kvs[j]? = some kv → Marked w F kv x.kids) : Marked w F (.slice (some ⟨g, 0, none⟩) l.length cap) l := by
  have hrl : (rowCells l kvs).length = l.length * 5 := rowCells_length hkl
  have hcap : l.length < cap := by
    rcases hro.2 with ⟨h, _⟩ | ⟨g', cap', cur, hv, _, _, hc, _⟩
    · cases h
    · injection hv with e1 e2 e3; omega
  refine .mk g cap l kvs hkl hcap hF (fun j x kv e1 e2 i u e3 => ?_) (fun i u e => ?_) hk
  · have h1 := rowCells_get e1 e2 e3
    have hlt : j * 5 + i < (rowCells l kvs).length := (List.getElem?_eq_some_iff.1 h1).1
    have := hro.cells (g := g) rfl (j * 5 + i) u (by rw [List.getElem?_append_left hlt]; exact h1)
    rw [addr_add] at this
    exact this
  · have := hro.cells (g := g) rfl (l.length * 5 + i) u (by rw [List.getElem?_append_right (by omega), hrl, Nat.add_sub_cancel_left]; exact e)
    rw [addr_add] at this
    exact this
end
end Go.Bd
namespace Go.Bd
open Go.RowKit
end Go.Bd
namespace Go.Proofs.YtmdbhdhfdldegaaGreatDoor
open Go.RowKit Go.Bd
theorem madeCells_size (z : Array Value) (n : Nat) : (madeCells z n).size = n := by simp [madeCells]
theorem results_cell1 {fn : Func} {p : Tmp} {ty : TypeId} (h : fn.results = #[.cell p ty]) (tmps : Array Value) (P : Program) (w : World) :
    (results fn tmps).run P w = ((asAddr (tmps.getD p undef)).run P w).andThen fun a w₁ => (loadVar ty a).run P w₁ := by
  simp only [results, h]
  simp [Sem.run_bind, Result.andThen]
theorem results_row {P : Program} {fn : Func} {p : Tmp} {ty : TypeId} (h : fn.results = #[.cell p ty]) (tmps : Array Value) (w : World) (g : Nat) (t : TypeId) (cs : Array Value) (fr : Nat × Nat) (d : TypeDesc)
    (hp : tmps.getD p undef = .pointer (some ⟨g, 0, none⟩)) (hg : w.heap[g]? = some (.cells cs t fr))
    (hu : P.underlying ty = some d) (hd : (match d with | .struct _ | .array _ _ => true | _ => false) = true) (hi : (P.info? ty).map (·.size) = some cs.size) :
    (results fn tmps).run P w = .ok (.agg cs) w := by
  rw [results_cell1 h, hp]
  simp [asAddr, run_loadVar_row w g t ty cs fr d hg hu hd hi, Result.andThen]
end Go.Proofs.YtmdbhdhfdldegaaGreatDoor
namespace Go.Proofs.YtmdbhdhfdldegaaGreatDoor
open Go.RowKit Go.Bd
theorem make_room (n : Nat) (w : World) (hn : n ≤ 1000000000) : (Instr.makeSlice 22 (.int .i64 0) (.int .i64 n)).run Tryz.prog w = .ok (.slice (some ⟨w.heap.size, 0, none⟩) 0 n) (w.alloc (.cells (madeCells #[.int .u8 0, .string ⟨#[]⟩, .string ⟨#[]⟩, .string ⟨#[]⟩, .slice none 0 0] (n * 5)) 32)) := by
  obtain ⟨i0, hi, hz0, hz1, hz2⟩ := info_parts span_info
  have h := run_make (P := Tryz.prog) w 22 32 i0 _ Tryz.underlying22 hi hz0 .i64 .i64 0 n (by omega) (by omega) (by rw [hz2]; omega) (by omega)
  rw [hz1] at h
  simpa [Value.cells] using h
theorem chg_set {w w' : World} {S : Nat → Prop} (h : Chg w w' S) (p : Addr) (u : Value) (hp : S p.block) : Chg w (w'.setCell p u) S := h.trans (Chg.set w' p u) (fun k _ e => by subst e; exact hp)
theorem holds_five {w : World} {g : Nat} {t : TypeId} {z0 z1 z2 z3 z4 a b c d e : Value} (h : Holds w g t #[z0, z1, z2, z3, z4]) : Holds (((((w.setCell ⟨g, 0, none⟩ a).setCell ⟨g, 1, none⟩ b).setCell ⟨g, 2, none⟩ c).setCell ⟨g, 3, none⟩ d).setCell ⟨g, 4, none⟩ e) g t #[a, b, c, d, e] :=
  ((((h.set 0 _).set 1 _).set 2 _).set 3 _).set 4 _
theorem name_world' {α : Sort _} {K : α → World → Prop} {a : α} {W : World} (h : ∀ W', W' = W → K a W') : K a W := h W rfl
def TwinOk (N : Nat) : Prop := ∀ (l : List Sp), manyL l ≤ N → manyL l ≤ 4000000 → ∀ (v : Value) (w : World) (B : Nat), Forest w (· < B) v l → B ≤ w.heap.size →
    Calls Tryz.prog 5 #[v] w fun e w' => ∃ v', e = .returned v' ∧ Marked w' (fun b => w.heap.size ≤ b ∧ b < w'.heap.size) v' l ∧ Below w.heap.size w w'
set_option maxRecDepth 100000 in
set_option maxHeartbeats 4000000 in
theorem twin1_any {N : Nat} (ih : TwinOk N) (x : Sp) (hN : manyL x.kids ≤ N) (hm : manyL x.kids ≤ 4000000) (v : Value) (w : World) (B : Nat) (hF : Forest w (· < B) v x.kids) (hB : B ≤ w.heap.size) :
    Calls Tryz.prog 11 #[.agg #[.int .u8 (x.kind : Int), .string ⟨x.text.toArray⟩, .string ⟨x.sub.toArray⟩, .string ⟨x.see.toArray⟩, v]] w fun e w' =>
      ∃ v', e = .returned (.agg #[.int .u8 (x.kind : Int), .string ⟨x.text.toArray⟩, .string ⟨x.sub.toArray⟩, .string ⟨x.see.toArray⟩, v']) ∧ Marked w' (fun b => w.heap.size ≤ b ∧ b < w'.heap.size) v' x.kids ∧ Below w.heap.size w w' := by
  obtain ⟨A, c, rfl, hc⟩ := hF.len
  obtain ⟨w0, hw0⟩ : ∃ w0, (w.alloc (.cells #[.int .u8 (x.kind : Int), .string ⟨x.text.toArray⟩, .string ⟨x.sub.toArray⟩, .string ⟨x.see.toArray⟩, .slice A x.kids.length c] 32)).alloc (.cells #[.int .u8 0, .string ⟨#[]⟩, .string ⟨#[]⟩, .string ⟨#[]⟩, .slice none 0 0] 32) = w0 := ⟨_, rfl⟩
  have hb0 : Below w.heap.size w w0 := by rw [← hw0]; exact ((Below.refl _ _).alloc (Nat.le_refl _) _).alloc (by simp) _
  have hX : Holds w0 w.heap.size 32 #[.int .u8 (x.kind : Int), .string ⟨x.text.toArray⟩, .string ⟨x.sub.toArray⟩, .string ⟨x.see.toArray⟩, .slice A x.kids.length c] := by rw [← hw0]; exact (Holds.new w _ _).alloc _
  have hR : Holds w0 (w.heap.size + 1) 32 #[.int .u8 0, .string ⟨#[]⟩, .string ⟨#[]⟩, .string ⟨#[]⟩, .slice none 0 0] := by
    rw [← hw0]
    have h := Holds.new (w.alloc (.cells #[.int .u8 (x.kind : Int), .string ⟨x.text.toArray⟩, .string ⟨x.sub.toArray⟩, .string ⟨x.see.toArray⟩, .slice A x.kids.length c] 32)) 32 #[.int .u8 0, .string ⟨#[]⟩, .string ⟨#[]⟩, .string ⟨#[]⟩, .slice none 0 0]
    rw [World.size_alloc] at h
    exact h
  have hs0 : w0.heap.size = w.heap.size + 2 := by rw [← hw0]; simp
  have HFO := Lib.hid hF
  have HB0 := Lib.hid hb0
  clear hF
  go_enter Tryz.func11, Tryz.ntmps11
  go_wp2
  clear hw0 hb0
  refine wp_region_held_drew (S := (fun w' => w'.cell? ⟨w.heap.size, 0, none⟩ = some (.int .u8 (x.kind : Int)) ∧ w'.cell? ⟨w.heap.size, 1, none⟩ = some (.string ⟨x.text.toArray⟩) ∧ w'.cell? ⟨w.heap.size, 2, none⟩ = some (.string ⟨x.sub.toArray⟩) ∧ w'.cell? ⟨w.heap.size, 3, none⟩ = some (.string ⟨x.see.toArray⟩) ∧ w'.cell? ⟨w.heap.size, 4, none⟩ = some (.slice A x.kids.length c))) (by kernel_rfl) ?_ (fun hHeld0 => ?_)
  · (try dsimp only)
    refine cells5 (t := 32) ?_
    repeat (first | with_reducible exact hX | with_reducible refine Holds.far ?_ hrx _ | with_reducible refine Holds.alloc ?_ _ | with_reducible refine Holds.drew ?_)
  refine wpAnyH_take (i := 0) (v := ?_) rfl (by kernel_rfl) (by kernel_rfl) (by kernel_rfl) (fun _ _ _ h => h) (Or.inl ⟨by kernel_rfl, ?_⟩) (by assumption) ?_
  rotate_left
  · (intro w hSw; (try dsimp only at hSw); go_simp; (first | done | with_reducible rfl))
  (try simp only [Act.put, List.setIfInBounds_toArray, List.set_cons_zero, List.set_cons_succ])
  refine wpAnyH_take (i := 1) (v := ?_) rfl (by kernel_rfl) (by kernel_rfl) (by kernel_rfl) (fun _ _ _ h => h) (Or.inl ⟨by kernel_rfl, ?_⟩) (by assumption) ?_
  rotate_left
  · (intro w hSw; (try dsimp only at hSw); go_simp; (first | done | with_reducible rfl))
  (try simp only [Act.put, List.setIfInBounds_toArray, List.set_cons_zero, List.set_cons_succ])
  refine wpAnyH_take (i := 2) (v := ?_) rfl (by kernel_rfl) (by kernel_rfl) (by kernel_rfl) (fun _ _ _ h => h) (Or.inl ⟨by kernel_rfl, ?_⟩) (by assumption) ?_
  rotate_left
  · (intro w hSw; (try dsimp only at hSw); go_simp; (first | done | with_reducible rfl))
  (try simp only [Act.put, List.setIfInBounds_toArray, List.set_cons_zero, List.set_cons_succ])
  refine wpAnyH_take (i := 3) (v := ?_) rfl (by kernel_rfl) (by kernel_rfl) (by kernel_rfl) (fun _ _ _ h => h) (Or.inl ⟨by kernel_rfl, ?_⟩) (by assumption) ?_
  rotate_left
  · (intro w hSw; (try dsimp only at hSw); go_simp; (first | done | with_reducible rfl))
  (try simp only [Act.put, List.setIfInBounds_toArray, List.set_cons_zero, List.set_cons_succ])
  refine wpAnyH_take (i := 4) (v := ?_) rfl (by kernel_rfl) (by kernel_rfl) (by kernel_rfl) (fun _ _ _ h => h) (Or.inl ⟨by kernel_rfl, ?_⟩) (by assumption) ?_
  rotate_left
  · (intro w hSw; (try dsimp only at hSw); go_simp; (first | done | with_reducible rfl))
  (try simp only [Act.put, List.setIfInBounds_toArray, List.set_cons_zero, List.set_cons_succ])
  refine wpAnyH_take (i := 5) (v := ?_) rfl (by kernel_rfl) (by kernel_rfl) (by kernel_rfl) (fun _ _ _ h => h) (Or.inl ⟨by kernel_rfl, ?_⟩) (by assumption) ?_
  rotate_left
  · (intro w hSw; (try dsimp only at hSw); go_simp; (first | done | with_reducible rfl))
  (try simp only [Act.put, List.setIfInBounds_toArray, List.set_cons_zero, List.set_cons_succ])
  refine wpAnyH_take (i := 6) (v := ?_) rfl (by kernel_rfl) (by kernel_rfl) (by kernel_rfl) (fun _ _ _ h => h) (Or.inl ⟨by kernel_rfl, ?_⟩) (by assumption) ?_
  rotate_left
  · (intro w hSw; (try dsimp only at hSw); go_simp; (first | done | with_reducible rfl))
  (try simp only [Act.put, List.setIfInBounds_toArray, List.set_cons_zero, List.set_cons_succ])
  refine wpAnyH_take (i := 7) (v := ?_) rfl (by kernel_rfl) (by kernel_rfl) (by kernel_rfl) (fun _ _ _ h => h) (Or.inl ⟨by kernel_rfl, ?_⟩) (by assumption) ?_
  rotate_left
  · (intro w hSw; (try dsimp only at hSw); go_simp; (first | done | with_reducible rfl))
  (try simp only [Act.put, List.setIfInBounds_toArray, List.set_cons_zero, List.set_cons_succ])
  refine wpAnyH_take (i := 8) (v := ?_) rfl (by kernel_rfl) (by kernel_rfl) (by kernel_rfl) (fun _ _ _ h => h) (Or.inl ⟨by kernel_rfl, ?_⟩) (by assumption) ?_
  rotate_left
  · (intro w hSw; (try dsimp only at hSw); go_simp; (first | done | with_reducible rfl))
  (try simp only [Act.put, List.setIfInBounds_toArray, List.set_cons_zero, List.set_cons_succ])
  refine wpAnyH_take (i := 9) (v := ?_) rfl (by kernel_rfl) (by kernel_rfl) (by kernel_rfl) (fun _ _ _ h => h) (Or.inl ⟨by kernel_rfl, ?_⟩) (by assumption) ?_
  rotate_left
  · (intro w hSw; (try dsimp only at hSw); go_simp; (first | done | with_reducible rfl))
  (try simp only [Act.put, List.setIfInBounds_toArray, List.set_cons_zero, List.set_cons_succ])
  refine wpAnyH_ready (rs := [10]) (by kernel_rfl) (by simp) ?_
  refine AllReadyH.cons rfl (fun K hK => ?_) AllReadyH.nil
  go_simp
  have hc0 : Forest w0.drew (· < B) (.slice A x.kids.length c) x.kids := (HFO.out.under (HB0.out.mono hB) (fun _ h => h)).keep (fun _ h => h) (fun _ _ _ h => h)
  refine (ih x.kids hN hm _ _ B hc0 (by show B ≤ w0.heap.size; omega)).mono ?_
  rintro e w2 ⟨v', rfl, ht2, hb2⟩
  have hsz2 := hb2.size
  have hX2 := holdsUnder (Holds.drew hX) hb2
  have hR2 := holdsUnder (Holds.drew hR) hb2
  have HB2 := Lib.hid ((HB0.out.drew).trans (hb2.mono (by show w.heap.size ≤ w0.heap.size; omega)))
  have hrx : w.heap.size ≠ w.heap.size + 1 := by omega
  clear hX hR hc0
  have hX := hX2
  have hR := hR2
  clear hX2 hR2
  obtain ⟨tg, tc, rfl, _⟩ := ht2.form
  have HT2 := Lib.hid ht2
  clear ht2 hb2
  go_wp2_with fail
  refine hK.out _ _ ?_ (fun hHeld1 => ?_)
  · (try dsimp only)
    refine cells5 (t := 32) ?_
    repeat (first | with_reducible exact hX | with_reducible refine Holds.far ?_ hrx _ | with_reducible refine Holds.alloc ?_ _ | with_reducible refine Holds.drew ?_)
  clear hK K hHeld0
  (try simp only [Act.put, List.setIfInBounds_toArray, List.set_cons_zero, List.set_cons_succ])
  refine wpAnyH_take (i := 11) (v := ?_) rfl (by kernel_rfl) (by kernel_rfl) (by kernel_rfl) (fun _ _ _ h => h) (Or.inl ⟨by kernel_rfl, ?_⟩) (by assumption) ?_
  rotate_left
  · (intro w hSw; (try dsimp only at hSw); go_simp; (first | done | with_reducible rfl))
  (try simp only [Act.put, List.setIfInBounds_toArray, List.set_cons_zero, List.set_cons_succ])
  refine wpAnyH_ready (rs := [12]) (by kernel_rfl) (by simp) ?_
  refine AllReadyH.cons rfl (fun K hK => ?_) AllReadyH.nil
  obtain ⟨a0, a1, a2, a3, a4⟩ := cells5 hR
  have f0 := hR.free 0
  have f1 := hR.free 1
  have f2 := hR.free 2
  have f3 := hR.free 3
  have f4 := hR.free 4
  go_simp
  refine name_world' ?_
  intro w9 hw9
  have hch : Chg w2 w9 (fun k => k = w.heap.size + 1) := by
    rw [hw9]
    repeat (first | with_reducible exact Chg.refl _ _ | with_reducible refine Chg.drew ?_ | with_reducible refine chg_set ?_ _ _ ?_ | rfl)
  have hR9 : Holds w9 (w.heap.size + 1) 32 #[.int .u8 (x.kind : Int), .string ⟨x.text.toArray⟩, .string ⟨x.sub.toArray⟩, .string ⟨x.see.toArray⟩, .slice (some ⟨tg, 0, none⟩) x.kids.length tc] := by
    rw [hw9]
    first | with_reducible exact holds_five hR | with_reducible exact (holds_five hR).drew
  have hX9 := hch.holds (g := w.heap.size) (by omega) hX
  have hws : w0.heap.size ≤ w2.heap.size := hsz2
  have HT9 := Lib.hid (HT2.out.chg (G := fun b => w.heap.size ≤ b ∧ b < w9.heap.size) hch (fun b h => ⟨by have h1 : w0.heap.size ≤ b := h.1; omega, Nat.lt_of_lt_of_le h.2 hch.size⟩) (fun b h e => by have h1 : w0.heap.size ≤ b := h.1; omega))
  have HB9 := Lib.hid (HB2.out.trans (hch.toBelow (by omega) (fun k e => by omega)))
  clear a0 a1 a2 a3 a4 f0 f1 f2 f3 f4 hw9 hch hX hR HT2 HB2
  have hX := hX9
  have hR := hR9
  clear hX9 hR9
  refine hK.out _ _ ?_ (fun hHeld2 => ?_)
  · (try dsimp only)
    refine cells5 (t := 32) ?_
    repeat (first | with_reducible exact hX | with_reducible refine Holds.far ?_ hrx _ | with_reducible refine Holds.alloc ?_ _ | with_reducible refine Holds.drew ?_)
  clear hK K hHeld1
  (try simp only [Act.put, List.setIfInBounds_toArray, List.set_cons_zero, List.set_cons_succ])
  refine wpAnyH_done (by kernel_rfl) ?_ _
  go_wp2
  (try simp only [Exit.inBlock, Exit.then])
  refine bodyPost_ret (results_row rfl _ _ (w.heap.size + 1) _ _ _ _ rfl hR Tryz.underlying32 rfl span_size) rfl ?_
  exact ⟨_, rfl, HT9.out, HB9.out⟩
structure TwSt (w wr : World) (g cap k : Nat) (kvs : List Value) (l : List Sp) : Prop where
  hl : kvs.length = k
  ho : wr.ownsRow w.heap.size 32 5 (.slice (some ⟨g, 0, none⟩) k cap) k (rowCells (l.take k) kvs)
  hk : ∀ (j : Nat) x kv, (l.take k)[j]? = some x → kvs[j]? = some kv → Marked wr (fun b => w.heap.size ≤ b ∧ b < wr.heap.size ∧ b ≠ g) kv x.kids
  hg : w.heap.size ≤ g ∧ g < wr.heap.size
  hb : Below w.heap.size w wr
theorem own_at {w : World} {B : Nat} {t : TypeId} {sz g k cap : Nat} {xs : List Value} (h : w.ownsRow B t sz (.slice (some ⟨g, 0, none⟩) k cap) k xs) : k ≤ cap := by
  rcases h.2 with ⟨h, _⟩ | ⟨g', cap', cur, hv, _, _, hc, _⟩
  · cases h
  · injection hv with e1 e2 e3; omega
theorem twSt_next {w wr w2 w3 : World} {g cap k g1 cap1 : Nat} {kvs : List Value} {l : List Sp} {x : Sp} {kv : Value} {o : Obj} (h : TwSt w wr g cap k kvs l) (hx : l[k]? = some x) (hb2 : Below wr.heap.size wr w2)
    (ht2 : Marked w2 (fun b => wr.heap.size ≤ b ∧ b < w2.heap.size) kv x.kids) (hown3 : w3.ownsRow w.heap.size 32 5 (.slice (some ⟨g1, 0, none⟩) (k + 1) cap1) (k + 1) (rowCells (l.take k) kvs ++ spCells x kv))
    (hgrow : (w2.alloc o).grownBy w3 (some g)) (hat : (some g : Option Nat) = some g1 ∨ g1 = w2.heap.size + 1) (hlt3 : g1 < w3.heap.size) : TwSt w w3 g1 cap1 (k + 1) (kvs ++ [kv]) l := by
  have hkl : k < l.length := (List.getElem?_eq_some_iff.1 hx).1
  have htl : (l.take k).length = k := by rw [List.length_take]; omega
  have etk : l.take (k + 1) = l.take k ++ [x] := by rw [List.take_add_one, hx]; rfl
  have hc : Chg w2 w3 (fun b => some b = some g) := ((Chg.refl w2 (fun b => some b = some g)).alloc o).trans (Chg.grown hgrow) (fun _ _ h => h)
  have hs2 := hb2.size
  have hs3 := hc.size
  obtain ⟨hg1, hg2⟩ := h.hg
  have hgg : g1 = g ∨ g1 = w2.heap.size + 1 := hat.imp (fun e => (Option.some.inj e).symm) id
  have hbb := h.hb.size
  refine ⟨by rw [List.length_append, h.hl]; rfl, by rw [etk, rowCells_snoc x kv (by rw [h.hl, htl])]; exact hown3, fun j y ku e1 e2 => ?_, ⟨by omega, hlt3⟩, ?_⟩
  · rw [etk] at e1
    by_cases hj : j < k
    · rw [List.getElem?_append_left (by omega)] at e1
      rw [List.getElem?_append_left (by rw [h.hl]; exact hj)] at e2
      refine ((h.hk j y ku e1 e2).under hb2 (fun b hb => hb.2.1)).chg hc (fun b hb => ⟨hb.1, by omega, by omega⟩) (fun b hb e => hb.2.2 (Option.some.inj e))
    · have hjk : j = k := by
        have := (List.getElem?_eq_some_iff.1 e1).1
        rw [List.length_append, htl] at this
        simp at this; omega
      subst hjk
      rw [List.getElem?_append_right (by omega), htl, Nat.sub_self] at e1
      rw [List.getElem?_append_right (by rw [h.hl]; exact Nat.le_refl _), h.hl, Nat.sub_self] at e2
      simp only [List.getElem?_cons_zero, Option.some.injEq] at e1 e2
      subst e1 e2
      exact ht2.chg hc (fun b hb => ⟨by omega, by omega, by omega⟩) (fun b hb e => by have := Option.some.inj e; omega)
  · exact (h.hb.trans (hb2.mono hbb)).trans (hc.toBelow (by omega) (fun b e => by have := Option.some.inj e; omega))
theorem twSt_last {w wr w3 : World} {g cap k g1 cap1 : Nat} {kvs : List Value} {l : List Sp} {o : Obj} (h : TwSt w wr g cap k kvs l) (hkl : l.length = k)
    (hown3 : w3.ownsRow w.heap.size 32 5 (.slice (some ⟨g1, 0, none⟩) (k + 1) cap1) (k + 1) (rowCells (l.take k) kvs ++ markCells))
    (hgrow : (wr.alloc o).grownBy w3 (some g)) (hat : (some g : Option Nat) = some g1 ∨ g1 = wr.heap.size + 1) (hlt3 : g1 < w3.heap.size) :
    Marked w3 (fun b => w.heap.size ≤ b ∧ b < w3.heap.size) (.slice (some ⟨g1, 0, none⟩) l.length cap1) l ∧ Below w.heap.size w w3 := by
  have hc : Chg wr w3 (fun b => some b = some g) := ((Chg.refl wr (fun b => some b = some g)).alloc o).trans (Chg.grown hgrow) (fun _ _ h => h)
  have hs3 := hc.size
  obtain ⟨hg1, hg2⟩ := h.hg
  have hgg : g1 = g ∨ g1 = wr.heap.size + 1 := hat.imp (fun e => (Option.some.inj e).symm) id
  have hbb := h.hb.size
  have htk : l.take k = l := List.take_of_length_le (by omega)
  have hk := h.hk
  rw [htk] at hown3 hk
  rw [← hkl] at hown3
  refine ⟨twin_of_row (by rw [h.hl, hkl]) hown3 ⟨by omega, hlt3⟩ (fun j x kv e1 e2 => ?_), h.hb.trans (hc.toBelow (by omega) (fun b e => by have := Option.some.inj e; omega))⟩
  exact (hk j x kv e1 e2).chg hc (fun b hb => ⟨hb.1, by omega⟩) (fun b hb e => hb.2.2 (Option.some.inj e))
set_option maxRecDepth 100000 in
set_option maxHeartbeats 4000000 in
theorem twin_step {N : Nat} (ih : ∀ M, M < N → TwinOk M) : TwinOk N := by
  intro l hN hm v w B hF hB
  obtain ⟨A, c, rfl, hc⟩ := hF.len
  have hlm := many_len l
  have HF := Lib.hid hF
  have HIH := Lib.hid ih
  clear hF ih
  obtain ⟨n, hn⟩ : ∃ n, l.length = n := ⟨_, rfl⟩
  have HN := Lib.hid hn
  simp only [hn] at hc hlm HF ⊢
  clear hn
  have mf := make_room (n + 1) w (by omega)
  have hz := madeCells_size #[.int .u8 0, .string ⟨#[]⟩, .string ⟨#[]⟩, .string ⟨#[]⟩, .slice none 0 0] ((n + 1) * 5)
  generalize madeCells #[.int .u8 0, .string ⟨#[]⟩, .string ⟨#[]⟩, .string ⟨#[]⟩, .slice none 0 0] ((n + 1) * 5) = zc at mf hz
  have HZ := Lib.hid hz
  rw [show (((n + 1 : Nat) : Int)) = (n : Int) + 1 by push_cast; rfl] at mf
  clear hz
  obtain ⟨i0, hi0, hz0, hz1, hz2⟩ := info_parts span_info
  go_enter Tryz.func5, Tryz.ntmps5
  go_wp2
  clear mf
  go_loopg [3, 4] n (fun q vt vi wr => ∃ k g cap : Nat, k + q = n ∧ vi = .int .i64 (k : Int) ∧ vt = .slice (some ⟨g, 0, none⟩) k cap ∧ Hid (∃ kvs, TwSt w wr g cap k kvs l))
  case atStart =>
    refine ⟨0, w.heap.size, n + 1, by omega, rfl, rfl, [], rfl, ⟨rfl, .inr ⟨w.heap.size, n + 1, zc, rfl, Nat.le_refl _, heap_alloc_new w _, Nat.zero_le _, by unfold maxLen; omega, HZ.out, rfl⟩⟩, fun j x kv h => by simp at h, ⟨Nat.le_refl _, by simp⟩, (Below.refl _ _).alloc (Nat.le_refl _) _⟩
  case round =>
    obtain ⟨k, g, cap, hk, rfl, rfl, HR⟩ := hrel
    obtain ⟨kvs, hst⟩ := HR.out
    have hkc := own_at hst.ho
    have hrb := hst.hb.size
    obtain ⟨hg1, hg2⟩ := hst.hg
    by_cases hlt : k < n
    · obtain ⟨x, hx⟩ : ∃ x, l[k]? = some x := ⟨_, List.getElem?_eq_getElem (by rw [HN.out]; exact hlt)⟩
      obtain ⟨b1, off, kA, kc, rfl, hb1, hkF, p0, p1, p2, p3, p4⟩ := HF.out.at hx
      have hbl := hst.hb.mono hB
      replace p0 := (hbl.cell (p := ⟨b1, off + k * 5, none⟩) hb1).trans p0
      replace p1 := (hbl.cell (p := ⟨b1, off + k * 5 + 1, none⟩) hb1).trans p1
      replace p2 := (hbl.cell (p := ⟨b1, off + k * 5 + 2, none⟩) hb1).trans p2
      replace p3 := (hbl.cell (p := ⟨b1, off + k * 5 + 3, none⟩) hb1).trans p3
      replace p4 := (hbl.cell (p := ⟨b1, off + k * 5 + 4, none⟩) hb1).trans p4
      have hgt := many_get hx
      have ci := twin1_any (HIH.out (manyL x.kids) (by omega)) x (Nat.le_refl _) (by omega) _ wr B (hkF.under hbl (fun _ h => h)) (by omega)
      have HST := Lib.hid hst
      have HX := Lib.hid hx
      clear hx hkF hbl hst HR
      go_wp2_with fail
      refine ci.mono ?_
      clear ci
      rintro e w2 ⟨v', rfl, ht2, hb2⟩
      have hs2 := hb2.size
      have hown2 := (Chg.below hb2 (fun _ => False)).owns HST.out.ho (fun _ _ h => h)
      have HT2 := Lib.hid ht2
      have HB2 := Lib.hid hb2
      obtain ⟨tg, tc, rfl, _⟩ := ht2.form
      clear ht2 hb2
      go_wp2_with (at_builtin; refine wpList_append_lies _ rfl _ _ 22 rfl w.heap.size 32 i0 _ 5 80 Tryz.underlying22 hi0 hz0 hz1 hz2 rfl (by omega) (.slice (some ⟨g, 0, none⟩) k cap) k (rowCells (l.take k) kvs) (by rfl) (hown2.alloc _) ⟨w2.heap.size, 0, none⟩ 1 1 [.int .u8 (x.kind : Int), .string ⟨x.text.toArray⟩, .string ⟨x.sub.toArray⟩, .string ⟨x.see.toArray⟩, .slice (some ⟨tg, 0, none⟩) x.kids.length tc] (by rfl) (by rfl) (World.news_of_block (cs := #[.int .u8 (x.kind : Int), .string ⟨x.text.toArray⟩, .string ⟨x.sub.toArray⟩, .string ⟨x.see.toArray⟩, .slice (some ⟨tg, 0, none⟩) x.kids.length tc]) (t := 32) (fr := (0, 0)) (heap_alloc_new w2 _)) (by simp [Value.oneCell']) (by omega) (by unfold maxLen; omega) (by omega) (by simp; omega) (w2.heap.size + 1) (by simp) ?_; intro g1 cap1 w3 hown3 hgrow hat hlt3)
      have HN3 := Lib.hid (twSt_next HST.out HX.out HB2.out HT2.out hown3 hgrow hat hlt3)
      clear hown3 hgrow hat hlt3 hown2
      go_roundg (gk - 1)
      case measure => omega
      case rel => exact ⟨k + 1, g1, cap1, by omega, by go_num, rfl, _, HN3.out⟩
    · obtain rfl : k = n := by omega
      have HST := Lib.hid hst
      have hown := hst.ho
      clear hst HR
      go_wp2_with (at_builtin; refine wpList_append_lies _ rfl _ _ 22 rfl w.heap.size 32 i0 _ 5 80 Tryz.underlying22 hi0 hz0 hz1 hz2 rfl (by omega) (.slice (some ⟨g, 0, none⟩) k cap) k (rowCells (l.take k) kvs) (by rfl) (hown.alloc _) ⟨wr.heap.size, 0, none⟩ 1 1 markCells (by rfl) (by rfl) (World.news_of_block (cs := #[.int .u8 0, .string ⟨#[115, 112, 97, 114, 101]⟩, .string ⟨#[]⟩, .string ⟨#[]⟩, .slice none 0 0]) (t := 32) (fr := (0, 0)) (heap_alloc_new wr _)) (by simp [markCells, strV, Value.oneCell']) (by omega) (by unfold maxLen; omega) (by omega) (by simp; omega) (wr.heap.size + 1) (by simp) ?_; intro g1 cap1 w3 hown3 hgrow hat hlt3; have hcap3 := own_at hown3)
      have HM3 := Lib.hid (twSt_last HST.out (by rw [HN.out]) hown3 hgrow hat hlt3)
      go_ret
      exact ⟨_, rfl, by have h := HM3.out.1; rw [HN.out] at h; exact h, HM3.out.2⟩
theorem twin_any (N : Nat) : TwinOk N := by
  induction N using Nat.strongRecOn with
  | _ N ih => exact twin_step ih
end Go.Proofs.YtmdbhdhfdldegaaGreatDoor
namespace Go.Proofs.YtmdbhdhfdldegaaGreatDoor
open Go.RowKit Go.Bd
def LeftOk (N : Nat) : Prop := ∀ (l : List Sp), manyL l ≤ N → manyL l ≤ 4000000 → ∀ (t v : Value) (w : World) (B : Nat), Marked w (· < B) t l → Forest w (· < B) v l → B ≤ w.heap.size →
    Calls Tryz.prog 8 #[t, v] w fun e w' => e = .returned (.bool true) ∧ Below B w w'
set_option maxRecDepth 100000 in
set_option maxHeartbeats 4000000 in
theorem left1_any {N : Nat} (ih : LeftOk N) (x : Sp) (hN : manyL x.kids ≤ N) (hm : manyL x.kids ≤ 4000000) (t v : Value) (w : World) (B : Nat) (hT : Marked w (· < B) t x.kids) (hF : Forest w (· < B) v x.kids) (hB : B ≤ w.heap.size) :
    Calls Tryz.prog 19 #[.agg #[.int .u8 (x.kind : Int), .string ⟨x.text.toArray⟩, .string ⟨x.sub.toArray⟩, .string ⟨x.see.toArray⟩, t], .agg #[.int .u8 (x.kind : Int), .string ⟨x.text.toArray⟩, .string ⟨x.sub.toArray⟩, .string ⟨x.see.toArray⟩, v]] w fun e w' => e = .returned (.bool true) ∧ Below B w w' := by
  obtain ⟨A, c, rfl, hc⟩ := hF.len
  obtain ⟨tg, tc, rfl, htc, _⟩ := hT.form
  have HF := Lib.hid hF
  have HT := Lib.hid hT
  have HI := Lib.hid ih
  clear hF hT ih
  go_enter Tryz.func19, Tryz.ntmps19
  go_wp2_with fail
  refine (HI.out x.kids hN hm _ _ _ B (HT.out.under (((Below.refl B w).alloc hB _).alloc (by simp; omega) _) (fun _ h => h)) (HF.out.under (((Below.refl B w).alloc hB _).alloc (by simp; omega) _) (fun _ h => h)) (by simp; omega)).mono ?_
  rintro e w2 ⟨rfl, hb2⟩
  have HB := Lib.hid ((((Below.refl B w).alloc hB _).alloc (by simp; omega) _).trans hb2)
  clear hb2
  go_wp2
  go_ret
  exact ⟨rfl, HB.out⟩
set_option maxRecDepth 100000 in
set_option maxHeartbeats 4000000 in
theorem left_step {N : Nat} (ih : ∀ M, M < N → LeftOk M) : LeftOk N := by
  intro l hN hm t v w B hT hF hB
  obtain ⟨A, c, rfl, hc⟩ := hF.len
  obtain ⟨tg, tc, rfl, htc, htB, hmk, htx⟩ := hT.form
  have hlm := many_len l
  have HF := Lib.hid hF
  have HT := Lib.hid htx
  have HI := Lib.hid ih
  have HMK := Lib.hid hmk
  clear hF hT ih htx hmk
  obtain ⟨n, hn⟩ : ∃ n, l.length = n := ⟨_, rfl⟩
  have HN := Lib.hid hn
  simp only [hn] at hc hlm htc HF HMK ⊢
  clear hn
  have htB' : tg < B := htB
  clear htB
  have tcb : decide (tc ≤ n) = false := decide_eq_false (by omega)
  go_enter Tryz.func8, Tryz.ntmps8
  go_wp2
  go_loopg [5] n (fun q i wr => ∃ k : Nat, k + q = n ∧ i = .int .i64 (k : Int) ∧ Hid (Below B w wr))
  case atStart => exact ⟨0, by omega, rfl, Below.refl _ _⟩
  case round =>
    obtain ⟨k, hk, rfl, HR⟩ := hrel
    by_cases hlt : k < n
    · obtain ⟨x, hx⟩ : ∃ x, l[k]? = some x := ⟨_, List.getElem?_eq_getElem (by rw [HN.out]; exact hlt)⟩
      obtain ⟨b2, off2, kA2, kc2, rfl, hb2, hkG, q0, q1, q2, q3, q4⟩ := HF.out.at hx
      obtain ⟨kv, hkT, p0, p1, p2, p3, p4⟩ := HT.out k x hx
      obtain ⟨sg, sc, rfl, hsc, _⟩ := hkT.form
      have hbl := HR.out
      have hrb := hbl.size
      replace p0 := (hbl.cell (p := ⟨tg, k * 5, none⟩) htB').trans p0
      replace p1 := (hbl.cell (p := ⟨tg, k * 5 + 1, none⟩) htB').trans p1
      replace p2 := (hbl.cell (p := ⟨tg, k * 5 + 2, none⟩) htB').trans p2
      replace p3 := (hbl.cell (p := ⟨tg, k * 5 + 3, none⟩) htB').trans p3
      replace p4 := (hbl.cell (p := ⟨tg, k * 5 + 4, none⟩) htB').trans p4
      replace q0 := (hbl.cell (p := ⟨b2, off2 + k * 5, none⟩) hb2).trans q0
      replace q1 := (hbl.cell (p := ⟨b2, off2 + k * 5 + 1, none⟩) hb2).trans q1
      replace q2 := (hbl.cell (p := ⟨b2, off2 + k * 5 + 2, none⟩) hb2).trans q2
      replace q3 := (hbl.cell (p := ⟨b2, off2 + k * 5 + 3, none⟩) hb2).trans q3
      replace q4 := (hbl.cell (p := ⟨b2, off2 + k * 5 + 4, none⟩) hb2).trans q4
      simp only [strV] at p1 p2 p3
      have hgt := many_get hx
      have HKT := Lib.hid (hkT.under hbl (fun _ h => h))
      have HKG := Lib.hid (hkG.under hbl (fun _ h => h))
      clear hx hkT hkG hbl
      go_wp2
      refine wp_region_held_drew (S := (fun w' => w'.cell? ⟨tg, k * 5, none⟩ = some (.int .u8 (x.kind : Int)) ∧ w'.cell? ⟨tg, k * 5 + 1, none⟩ = some (.string ⟨x.text.toArray⟩) ∧ w'.cell? ⟨tg, k * 5 + 2, none⟩ = some (.string ⟨x.sub.toArray⟩) ∧ w'.cell? ⟨tg, k * 5 + 3, none⟩ = some (.string ⟨x.see.toArray⟩) ∧ w'.cell? ⟨tg, k * 5 + 4, none⟩ = some (.slice (some ⟨sg, 0, none⟩) x.kids.length sc) ∧ w'.cell? ⟨b2, off2 + k * 5, none⟩ = some (.int .u8 (x.kind : Int)) ∧ w'.cell? ⟨b2, off2 + k * 5 + 1, none⟩ = some (.string ⟨x.text.toArray⟩) ∧ w'.cell? ⟨b2, off2 + k * 5 + 2, none⟩ = some (.string ⟨x.sub.toArray⟩) ∧ w'.cell? ⟨b2, off2 + k * 5 + 3, none⟩ = some (.string ⟨x.see.toArray⟩) ∧ w'.cell? ⟨b2, off2 + k * 5 + 4, none⟩ = some (.slice kA2 x.kids.length kc2))) (by kernel_rfl) ?_ (fun hHeld0 => ?_)
      · (try dsimp only)
        first | exact ⟨p0, p1, p2, p3, p4, q0, q1, q2, q3, q4⟩ | exact ⟨r0, r1, r2, r3, r4, s0, s1, s2, s3, s4⟩
      refine wpAnyH_take (i := 0) (v := ?_) rfl (by kernel_rfl) (by kernel_rfl) (by kernel_rfl) (fun _ _ _ h => h) (Or.inl ⟨by kernel_rfl, ?_⟩) (by assumption) ?_
      rotate_left
      · (intro w hSw; (try dsimp only at hSw); go_simp; (first | done | with_reducible rfl))
      (try simp only [Act.put, List.setIfInBounds_toArray, List.set_cons_zero, List.set_cons_succ])
      refine wpAnyH_take (i := 1) (v := ?_) rfl (by kernel_rfl) (by kernel_rfl) (by kernel_rfl) (fun _ _ _ h => h) (Or.inl ⟨by kernel_rfl, ?_⟩) (by assumption) ?_
      rotate_left
      · (intro w hSw; (try dsimp only at hSw); go_simp; (first | done | with_reducible rfl))
      (try simp only [Act.put, List.setIfInBounds_toArray, List.set_cons_zero, List.set_cons_succ])
      refine wpAnyH_take (i := 2) (v := ?_) rfl (by kernel_rfl) (by kernel_rfl) (by kernel_rfl) (fun _ _ _ h => h) (Or.inl ⟨by kernel_rfl, ?_⟩) (by assumption) ?_
      rotate_left
      · (intro w hSw; (try dsimp only at hSw); go_simp; (first | done | with_reducible rfl))
      (try simp only [Act.put, List.setIfInBounds_toArray, List.set_cons_zero, List.set_cons_succ])
      refine wpAnyH_take (i := 3) (v := ?_) rfl (by kernel_rfl) (by kernel_rfl) (by kernel_rfl) (fun _ _ _ h => h) (Or.inl ⟨by kernel_rfl, ?_⟩) (by assumption) ?_
      rotate_left
      · (intro w hSw; (try dsimp only at hSw); go_simp; (first | done | with_reducible rfl))
      (try simp only [Act.put, List.setIfInBounds_toArray, List.set_cons_zero, List.set_cons_succ])
      refine wpAnyH_take (i := 4) (v := ?_) rfl (by kernel_rfl) (by kernel_rfl) (by kernel_rfl) (fun _ _ _ h => h) (Or.inl ⟨by kernel_rfl, ?_⟩) (by assumption) ?_
      rotate_left
      · (intro w hSw; (try dsimp only at hSw); go_simp; (first | done | with_reducible rfl))
      (try simp only [Act.put, List.setIfInBounds_toArray, List.set_cons_zero, List.set_cons_succ])
      refine wpAnyH_take (i := 5) (v := ?_) rfl (by kernel_rfl) (by kernel_rfl) (by kernel_rfl) (fun _ _ _ h => h) (Or.inl ⟨by kernel_rfl, ?_⟩) (by assumption) ?_
      rotate_left
      · (intro w hSw; (try dsimp only at hSw); go_simp; (first | done | with_reducible rfl))
      (try simp only [Act.put, List.setIfInBounds_toArray, List.set_cons_zero, List.set_cons_succ])
      refine wpAnyH_take (i := 6) (v := ?_) rfl (by kernel_rfl) (by kernel_rfl) (by kernel_rfl) (fun _ _ _ h => h) (Or.inl ⟨by kernel_rfl, ?_⟩) (by assumption) ?_
      rotate_left
      · (intro w hSw; (try dsimp only at hSw); go_simp; (first | done | with_reducible rfl))
      (try simp only [Act.put, List.setIfInBounds_toArray, List.set_cons_zero, List.set_cons_succ])
      refine wpAnyH_take (i := 7) (v := ?_) rfl (by kernel_rfl) (by kernel_rfl) (by kernel_rfl) (fun _ _ _ h => h) (Or.inl ⟨by kernel_rfl, ?_⟩) (by assumption) ?_
      rotate_left
      · (intro w hSw; (try dsimp only at hSw); go_simp; (first | done | with_reducible rfl))
      (try simp only [Act.put, List.setIfInBounds_toArray, List.set_cons_zero, List.set_cons_succ])
      refine wpAnyH_ready (rs := [8]) (by kernel_rfl) (by simp) ?_
      refine AllReadyH.cons rfl (fun K hK => ?_) AllReadyH.nil
      go_simp
      refine (left1_any (HI.out (manyL x.kids) (by omega)) x (Nat.le_refl _) (by omega) _ _ wr.drew B (HKT.out.keep (fun _ h => h) (fun _ _ _ h => h)) (HKG.out.keep (fun _ h => h) (fun _ _ _ h => h)) (by first | omega | (show B ≤ wr.heap.size; omega))).mono ?_
      rintro e w2 ⟨rfl, hb2'⟩
      have HB2 := Lib.hid (((Below.refl B wr).drew).trans hb2')
      clear hb2'
      have r0 := (HB2.out.cell (p := ⟨tg, k * 5, none⟩) (by omega)).trans p0
      have r1 := (HB2.out.cell (p := ⟨tg, k * 5 + 1, none⟩) (by omega)).trans p1
      have r2 := (HB2.out.cell (p := ⟨tg, k * 5 + 2, none⟩) (by omega)).trans p2
      have r3 := (HB2.out.cell (p := ⟨tg, k * 5 + 3, none⟩) (by omega)).trans p3
      have r4 := (HB2.out.cell (p := ⟨tg, k * 5 + 4, none⟩) (by omega)).trans p4
      have s0 := (HB2.out.cell (p := ⟨b2, off2 + k * 5, none⟩) (by omega)).trans q0
      have s1 := (HB2.out.cell (p := ⟨b2, off2 + k * 5 + 1, none⟩) (by omega)).trans q1
      have s2 := (HB2.out.cell (p := ⟨b2, off2 + k * 5 + 2, none⟩) (by omega)).trans q2
      have s3 := (HB2.out.cell (p := ⟨b2, off2 + k * 5 + 3, none⟩) (by omega)).trans q3
      have s4 := (HB2.out.cell (p := ⟨b2, off2 + k * 5 + 4, none⟩) (by omega)).trans q4
      go_wp2_with fail
      refine hK.out _ _ ?_ (fun hHeld1 => ?_)
      · (try dsimp only)
        first | exact ⟨p0, p1, p2, p3, p4, q0, q1, q2, q3, q4⟩ | exact ⟨r0, r1, r2, r3, r4, s0, s1, s2, s3, s4⟩
      clear hK K hHeld0
      (try simp only [Act.put, List.setIfInBounds_toArray, List.set_cons_zero, List.set_cons_succ])
      refine wpAnyH_take (i := 9) (v := ?_) rfl (by kernel_rfl) (by kernel_rfl) (by kernel_rfl) (fun _ _ _ h => h) (Or.inl ⟨by kernel_rfl, ?_⟩) (by assumption) ?_
      rotate_left
      · (intro w hSw; (try dsimp only at hSw); go_simp; (first | done | with_reducible rfl))
      (try simp only [Act.put, List.setIfInBounds_toArray, List.set_cons_zero, List.set_cons_succ])
      refine wpAnyH_done (by kernel_rfl) ?_ _
      go_wp2
      go_roundg (gk - 1)
      case measure => omega
      case rel => exact ⟨k + 1, by omega, by go_num, HR.out.trans HB2.out⟩
    · obtain rfl : k = n := by omega
      have hbl := HR.out
      have hrb := hbl.size
      have m0 : wr.cell? ⟨tg, k * 5, none⟩ = some (.int .u8 0) := (hbl.cell (p := ⟨tg, k * 5, none⟩) htB').trans (HMK.out 0 _ rfl)
      have m1 : wr.cell? ⟨tg, k * 5 + 1, none⟩ = some (.string ⟨#[115, 112, 97, 114, 101]⟩) := (hbl.cell (p := ⟨tg, k * 5 + 1, none⟩) htB').trans (HMK.out 1 _ rfl)
      have m2 : wr.cell? ⟨tg, k * 5 + 2, none⟩ = some (.string ⟨#[]⟩) := (hbl.cell (p := ⟨tg, k * 5 + 2, none⟩) htB').trans (HMK.out 2 _ rfl)
      have m3 : wr.cell? ⟨tg, k * 5 + 3, none⟩ = some (.string ⟨#[]⟩) := (hbl.cell (p := ⟨tg, k * 5 + 3, none⟩) htB').trans (HMK.out 3 _ rfl)
      have m4 : wr.cell? ⟨tg, k * 5 + 4, none⟩ = some (.slice none 0 0) := (hbl.cell (p := ⟨tg, k * 5 + 4, none⟩) htB').trans (HMK.out 4 _ rfl)
      clear hbl
      go_wp2
      go_ret
      exact ⟨by kernel_rfl, HR.out.alloc (by omega) _⟩
theorem left_any (N : Nat) : LeftOk N := by
  induction N using Nat.strongRecOn with
  | _ N ih => exact left_step ih
end Go.Proofs.YtmdbhdhfdldegaaGreatDoor
namespace Go.Proofs.YtmdbhdhfdldegaaGreatDoor
open Go.RowKit Go.Bd
set_option maxRecDepth 100000 in
set_option maxHeartbeats 2000000 in
theorem spansTexts_true (v : Value) (l : List Sp) (m : Int) (w : World) (hg : w.cell? ⟨0, 0, none⟩ = some (.int .i64 m) ∧ Lib.Utf8Tabs 1 2 w) (hF : Forest w (· < w.heap.size) v l) (hz : szL l ≤ 1048576) :
    Calls Tryz.prog 3 #[v] w fun e w' => e = .returned (.bool true) ∧ Below w.heap.size w w' := by
  obtain ⟨A, c, rfl, hc⟩ := hF.len
  have hm := hg.1
  have hB : 0 < w.heap.size := World.block_lt_of_cell? w _ hm
  have HM := Lib.hid hm
  have HF := Lib.hid hF
  have cg := great_any l hz (.slice A l.length c) w hF
  have hlen := szL_len l
  have hwl := wl_szL l
  have hmz := many_szL l
  have HGD : Hid (greatB l = false → szL l ≤ 4000) := fun h => by
    unfold greatB at h
    simp only [Bool.or_eq_false_iff, decide_eq_false_iff_not] at h
    omega
  obtain ⟨sb, ec, hTV⟩ : ∃ (sb : ByteArray) (ec : Int), textSV (textOf l) = .tuple #[.string sb, .int .i64 ec] := by
    cases textOf l with
    | none => exact ⟨_, _, rfl⟩
    | some s => exact ⟨_, _, rfl⟩
  have CW := Lib.hid (fun w' hf => twin_any _ l (Nat.le_refl _) (by omega) (.slice A l.length c) w' w'.heap.size hf (Nat.le_refl _))
  have CT := Lib.hid (fun v' w' (h4 : szL l ≤ 4000) hf hc => textSpans_any l (by omega) (by omega) v' w' m hf hc)
  have CR := Lib.hid (fun w' (h4 : szL l ≤ 4000) hf => refTextS_any l (by omega) (by omega) (.slice A l.length c) w' w'.heap.size hf (Nat.le_refl _))
  have CL := Lib.hid (fun t w' ht hf => left_any _ l (Nat.le_refl _) (by omega) t (.slice A l.length c) w' w'.heap.size ht hf (Nat.le_refl _))
  rw [hTV] at CT CR
  clear hm hF hg hTV
  obtain ⟨n, hn⟩ : ∃ n, l.length = n := ⟨_, rfl⟩
  have HN := Lib.hid hn
  simp only [hn] at hc hlen HF cg CW CR CL ⊢
  clear hn
  by_cases hgr : greatB l = false
  · have hz4 := HGD.out hgr
    rw [hgr] at cg
    go_enter Tryz.func3, Tryz.ntmps3
    go_wp2_with fail
    refine cg.mono ?_
    clear cg
    rintro e w1 ⟨rfl, hb1⟩
    have hs1 := hb1.size
    have HB1 := Lib.hid hb1
    have HF1 := Lib.hid (Forest.later HF.out hb1)
    have HC1 := Lib.hid ((hb1.cell (p := ⟨0, 0, none⟩) hB).trans HM.out)
    have cw := CW.out w1 HF1.out
    clear hb1 HGD
    go_wp2_with fail
    refine cw.mono ?_
    clear cw
    rintro e w2 ⟨v', rfl, hmk2, hb2⟩
    have hs2 := hb2.size
    have HB2 := Lib.hid (HB1.out.trans (hb2.mono hs1))
    have HF2 := Lib.hid (Forest.later HF1.out hb2)
    have HC2 := Lib.hid ((hb2.cell (p := ⟨0, 0, none⟩) (show 0 < w1.heap.size by omega)).trans HC1.out)
    have ct := CT.out v' w2 hz4 (hmk2.forest.keep (fun b hb => hb.2) (fun _ _ _ h => h)) HC2.out
    obtain ⟨g2, c2, rfl, _⟩ := hmk2.form
    have HMK := Lib.hid hmk2
    clear hb2 HF1 HC1 hmk2
    rw [HN.out] at ct HMK
    (try rw [HN.out])
    go_wp2_with fail
    refine ct.mono ?_
    clear ct
    rintro e w3 ⟨rfl, hb3⟩
    have hs3 := hb3.size
    have HB3 := Lib.hid (HB2.out.trans (hb3.mono (by omega)))
    have HF3 := Lib.hid (Forest.later HF2.out hb3)
    have HMK3 := Lib.hid (HMK.out.under hb3 (fun b hb => hb.2))
    have cr := CR.out w3 hz4 HF3.out
    clear hb3 HF2 HC2 HMK
    go_wp2_with fail
    refine cr.mono ?_
    clear cr
    rintro e w4 ⟨rfl, hb4⟩
    have hs4 := hb4.size
    have HB4 := Lib.hid (HB3.out.trans (hb4.mono (by omega)))
    have HF4 := Lib.hid (Forest.later HF3.out hb4)
    have HMK4 := Lib.hid (HMK3.out.under hb4 (fun b hb => by have h5 := hb.2; show b < w3.heap.size; omega))
    have cl := CL.out _ w4 (HMK4.out.keep (fun b hb => by have h5 := hb.2; show b < w4.heap.size; omega) (fun _ _ _ h => h)) HF4.out
    clear hb4 HF3 HMK3
    go_wp2_with fail
    refine cl.mono ?_
    clear cl
    rintro e w5 ⟨rfl, hb5⟩
    have HB5 := Lib.hid (HB4.out.trans (hb5.mono (by omega)))
    clear hb5
    go_wp2
    go_ret
    exact ⟨rfl, HB5.out⟩
  · rw [Bool.not_eq_false] at hgr
    rw [hgr] at cg
    go_enter Tryz.func3, Tryz.ntmps3
    go_wp2_with fail
    refine cg.mono ?_
    clear cg
    rintro e w1 ⟨rfl, hb1⟩
    go_wp2
    go_ret
    exact ⟨rfl, hb1⟩
end Go.Proofs.YtmdbhdhfdldegaaGreatDoor
namespace Go.Proofs.YtmdbhdhfdldegaaGreatDoor
open Go.RowKit Go.WideShapes Go.ChangeShapes
section
variable {H : Type} {enc : TypeId × Value → H} {P : Program}
theorem post_kept {f : Func} {s : ChangeSpec} {apart fresh handsOn again : Bool} {W W' : World} {args : Array Value} {v : Value} {ds gs : List (DataW H)} {before pa pv : List MemPlace}
    (hW : DataW.Whole enc P f.params.toList s.vars apart W args.toList ds gs before) (hb : Below W.heap.size W W')
    (hres : ∀ (b : Nat) (sp : Nat → Bool) (hd : Bool), DataW.TrodAll enc P W' b sp hd f.resultTypes.toList (v.resultList f.resultTypes.size) (s.fn H (ds ++ gs)).results [])
    (hargs : ∀ sp : Nat → Bool, (∀ p ∈ before, sp p.block = true) → DataW.TrodAll enc P W' 0 sp true f.params.toList args.toList (s.fn H (ds ++ gs)).args pa)
    (hvars : ∀ sp : Nat → Bool, (∀ p ∈ before, sp p.block = true) → DataW.TrodVars enc P W' sp s.vars (s.fn H (ds ++ gs)).vars pv)
    (hps : before = pa ++ pv)
    (hok : ∀ (j : Nat) (t : TypeId) (r : Value), f.resultTypes[j]? = some t → (v.resultList f.resultTypes.size)[j]? = some r → Value.okWide P W' .any 0 t r) :
    s.post enc P f apart fresh handsOn again W args v W' := by
  have old : ∀ p ∈ before, p.block < W.heap.size := fun p hp => hW.lt p hp
  have here : ∀ p ∈ before, (fun b => decide (b < W.heap.size)) p.block = true := fun p hp => by simpa using old p hp
  refine ⟨ds, gs, before, [], pa, pv, hW, hres _ _ _, hargs _ here, hvars _ here, World.keptBut_mono (fun p hp => ⟨hp, ?_⟩) (hb.frame (· ∈ before)), fun _ => ?_⟩
  · rw [hps, List.mem_append] at hp
    exact Or.inr hp
  · obtain ⟨_, _, _, _, _, hz, hn⟩ := hW
    refine ⟨hok, _, _, ([] ++ pa) ++ pv, ⟨[] ++ pa, pv, trodAll_append (hargs _ (fun _ _ => rfl)) (hres _ _ _), hvars _ (fun _ _ => rfl), rfl, fun b off hp => ?_, fun ha => ?_⟩, fun p hp _ => ?_⟩
    · have hin : MemPlace.cell b off ∈ before := by rw [hps]; simpa using hp
      rw [hb.frozen (old _ hin)]
      exact hz b off hin
    · have := hn ha
      rw [hps] at this
      simpa using this
    · rw [hps]
      simpa using hp
end
section
variable {H : Type} {enc : TypeId × Value → H} {P : Program}
theorem trodAll_later (hl : laidOutB P = true) {W W' : World} {sp : Nat → Bool} (hb : Below W.heap.size W W') : ∀ {ts : List TypeId} {vs : List Value} {ds : List (DataW H)} {p : List MemPlace},
    (∀ t ∈ ts, P.readableRec t = true ∧ t < P.types.size) → DataW.TrodAll enc P W 0 (fun _ => true) true ts vs ds p → (∀ x ∈ p, x.block < W.heap.size) → (∀ x ∈ p, sp x.block = true) →
    DataW.TrodAll enc P W' 0 sp true ts vs ds p := by
  intro ts
  induction ts with
  | nil =>
    intro vs ds p _ h _ _
    obtain ⟨rfl, rfl, rfl⟩ := trodAll_nil h
    exact trodAll_mk0
  | cons t ts ih =>
    intro vs ds p hr h hlt hs
    obtain ⟨v, vs', d, ds', q, q', rfl, rfl, rfl, h0, r⟩ := trodAll_cons h
    have ht := hr t (List.mem_cons_self ..)
    exact trodAll_cons_mk (WideElems.Trod_stays hl ht.1 ht.2 h0 (fun x hx => hb.same (hlt x (List.mem_append_left _ hx))) (fun x hx => hs x (List.mem_append_left _ hx)))
      (ih (fun u hu => hr u (List.mem_cons_of_mem _ hu)) r (fun x hx => hlt x (List.mem_append_right _ hx)) (fun x hx => hs x (List.mem_append_right _ hx)))
theorem law_post {f : Func} {s : ChangeSpec} {apart fresh handsOn again : Bool} {W W' : World} {args : Array Value} {ds gs : List (DataW H)} {before : List MemPlace} {b : TypeId}
    (hW : DataW.Whole enc P f.params.toList s.vars apart W args.toList ds gs before) (hb : Below W.heap.size W W') (hl : laidOutB P = true)
    (hr : ∀ t ∈ f.params.toList, P.readableRec t = true ∧ t < P.types.size) (hv : s.vars = [])
    (hfn : s.fn H (ds ++ []) = { results := [.lit (.bool true)], args := ds }) (hres : f.resultTypes = #[b]) (hbool : P.underlying b = some .bool) :
    ∃ v, Ending.returned (.bool true) = .returned v ∧ s.post enc P f apart fresh handsOn again W args v W' := by
  have hW' := hW
  obtain ⟨p, q, hA, hV, hpq, _, _⟩ := hW
  rw [hv] at hV
  obtain ⟨rfl, rfl⟩ := trodVars_none hV
  rw [List.append_nil] at hpq
  subst hpq
  have hlt : ∀ x ∈ before, x.block < W.heap.size := fun x hx => hW'.lt x hx
  refine ⟨_, rfl, post_kept (pa := before) (pv := []) hW' hb (fun _ _ _ => ?_) (fun sp hs => ?_) (fun _ _ => ?_) (by simp) (ok_one hres rfl (okWide_bool_mk hbool _))⟩
  · rw [hfn, hres]
    exact trodAll_cons_mk (shut_bool hbool _) trodAll_mk0
  · rw [hfn]
    exact trodAll_later hl hb hr hA hlt hs
  · rw [hfn, hv]
    rfl
end
theorem laidOut : laidOutB Tryz.prog = true := by kernel_rfl
theorem own : ownKnob Tryz.prog.godebug = none := by kernel_rfl
theorem maxLen_cell (W : World) (h : W.ShapedOpen Tryz.prog) : ∃ m, W.cell? ⟨0, 0, none⟩ = some (.int .i64 m) :=
  cell_of_shapedOpen_int (zero := #[.int .i64 0]) (t := 3) h (of_decide_eq_true (by kernel_rfl)) (by kernel_rfl) rfl (by kernel_rfl) (by kernel_rfl) Tryz.underlying3
def acceptCells : Array Value := #[.int .u8 128, .int .u8 191, .int .u8 160, .int .u8 191, .int .u8 128, .int .u8 159, .int .u8 144, .int .u8 191, .int .u8 128, .int .u8 143,
  .int .u8 0, .int .u8 0, .int .u8 0, .int .u8 0, .int .u8 0, .int .u8 0, .int .u8 0, .int .u8 0, .int .u8 0, .int .u8 0, .int .u8 0, .int .u8 0, .int .u8 0, .int .u8 0, .int .u8 0, .int .u8 0, .int .u8 0, .int .u8 0, .int .u8 0, .int .u8 0, .int .u8 0, .int .u8 0]
def putCells (h : Array Obj) (g : Nat) (cs : Array Value) : Array Obj := h.modify g fun
  | .cells _ t frozen => .cells cs t frozen
  | o => o
noncomputable def laidWorld (os : Os) : World :=
  { World.holding Tryz.prog os ⟨#[], #[], []⟩ with heap := putCells (putCells (World.holding Tryz.prog os ⟨#[], #[], []⟩).heap 1 (Go.Pinned.utf8FirstZ.map fun (n : Nat) => Value.int .u8 (n : Int)).toArray) 2 acceptCells }
end Go.Proofs.YtmdbhdhfdldegaaGreatDoor
namespace Go.Proofs.YtmdbhdhfdldegaaGreatDoor
open Go.RowKit Go.WideShapes Go.ChangeShapes
theorem data_first : Rows.laid_unicode_utf8_first = Lib.firstData := by kernel_rfl
theorem data_accept : (Rows.laid_unicode_utf8_acceptRanges : DataW Unit) = Lib.acceptData := by kernel_rfl
theorem tabs_of {W : World} {r : List (String × DataW Unit)} (h : laidMet Tryz.prog (("unicode/utf8.acceptRanges", Rows.laid_unicode_utf8_acceptRanges) :: ("unicode/utf8.first", Rows.laid_unicode_utf8_first) :: r) W) : Lib.Utf8Tabs 1 2 W := by
  rw [data_first, data_accept] at h
  exact utf8Tabs_of_readsT (ρ := Tryz.lays260_ren) (U8Types.of260 Tryz.lays260) ⟨by kernel_rfl, by kernel_rfl, by kernel_rfl, by kernel_rfl, by kernel_rfl, by kernel_rfl, by kernel_rfl⟩ (Lib.laidMet.reads h (.tail _ (.head _))) (Lib.laidMet.reads h (.head _))
end Go.Proofs.YtmdbhdhfdldegaaGreatDoor
namespace Go.Bd
open Go.ChangeShapes Go.WideShapes
section
variable {H : Type} {enc : TypeId × Value → H} {P : Program} {w : World} {base : Nat} {sp : Nat → Bool} {held : Bool}
theorem take_drop_one {cs : List Value} {i : Nat} (h : i < cs.length) : (cs.drop i).take 1 = [cs[i]] := by
  rw [List.drop_eq_getElem_cons h]; rfl
theorem open_fields {e : TypeId} {fs : Array Field} {a : Addr} {cs : List Value} {fuel : Nat} {x : DataW H × List MemPlace} (he : P.underlying e = some (.struct fs)) (hc : P.cellsOf e = fs.size)
    (ho : ∀ (i : Nat) f, fs[i]? = some f → f.offset = i ∧ P.cellsOf f.type = 1) (h1 : w.cells? base a (P.cellsOf e) = some cs) (h2 : DataW.trod enc P w base sp held fuel e cs = some x) :
    ∃ (m : Nat) (V : Nat → Value) (D : Nat → DataW H × List MemPlace), x.1 = .agg ((List.range fs.size).map fun i => (D i).1) ∧ ∀ (i : Nat) f, fs[i]? = some f → w.cell? (a.add i) = some (V i) ∧ DataW.trod enc P w base sp held m f.type [V i] = some (D i) := by
  obtain ⟨_, hlen, hcell⟩ := World.cells?_some h1
  obtain ⟨xs, k, hk, hxy, hcl, hxl, hf⟩ := DataW.trod_struct he h2
  refine ⟨k, fun i => cs.getD i (.int .i64 0), fun i => xs.getD i (.nil, []), ?_, fun i f hif => ?_⟩
  · rw [hxy]
    show DataW.agg _ = _
    congr 1
    rw [Deep.map_by_index xs (.nil, []) (·.1), hxl]
  · obtain ⟨o, c⟩ := ho i f hif
    have hi : i < fs.size := (Array.getElem?_eq_some_iff.1 hif).1
    have hic : i < cs.length := by omega
    have hix : i < xs.length := by omega
    have g := hf i f hif
    rw [o, c, take_drop_one hic, List.getElem?_eq_getElem hix] at g
    have hce := hcell i (by omega)
    refine ⟨?_, ?_⟩
    · rw [hce]
      simp [List.getD, List.getElem?_eq_getElem hic]
    · simp only [List.getD, List.getElem?_eq_getElem hic, List.getElem?_eq_getElem hix, Option.getD_some]
      exact g
theorem open_addr {w : World} {a : Addr} {v : Value} (h : w.cell? (a.add 0) = some v) : ∃ b off, a = ⟨b, off, none⟩ ∧ b < w.heap.size := by
  obtain ⟨b, off, spot⟩ := a
  have e : (⟨b, off, spot⟩ : Addr).add 0 = ⟨b, off, spot⟩ := by simp [Addr.add]
  rw [e] at h
  refine ⟨b, off, ?_, World.block_lt_of_cell? w _ h⟩
  cases spot with
  | none => rfl
  | some s =>
    exfalso
    simp only [World.cell?] at h
    split at h <;> simp at h
end
end Go.Bd
namespace Go.Proofs.YtmdbhdhfdldegaaGreatDoor
open Go.ChangeShapes Go.WideShapes Go.RowKit Go.Bd
theorem bulk_map {H : Type} {α : Type} {S : α → Sp} {D : α → DataW H} : ∀ {r : List α}, (∀ i ∈ r, sz1 (S i) + 1 ≤ Rows.uptoBulk (D i)) → szL (r.map S) ≤ Rows.uptoBulkAll (r.map D)
  | [], _ => Nat.le_refl _
  | i :: r, h => by
    have h1 := h i (List.mem_cons_self ..)
    have h2 := bulk_map (r := r) fun j hj => h j (List.mem_cons_of_mem _ hj)
    simp only [List.map_cons, szL, Rows.uptoBulkAll]
    omega
theorem bulk_at {H : Type} {α : Type} {D : α → DataW H} : ∀ {r : List α} {i : α}, i ∈ r → Rows.uptoBulk (D i) ≤ Rows.uptoBulkAll (r.map D)
  | j :: r, i, h => by
    simp only [List.map_cons, Rows.uptoBulkAll]
    rcases List.mem_cons.1 h with rfl | h
    · omega
    · have := bulk_at (D := D) h; omega
theorem byte_back (s : ByteArray) : (⟨s.data.toList.toArray⟩ : ByteArray) = s := by simp
section
variable {H : Type} {enc : TypeId × Value → H} {w : World} {sp : Nat → Bool} {held : Bool}
set_option maxRecDepth 100000 in
theorem open_spans_cells : ∀ (N : Nat) {fuel : Nat} {cs : List Value} {x : DataW H × List MemPlace}, Rows.uptoBulk x.1 ≤ N → DataW.trod enc Tryz.prog w 0 sp held fuel 22 cs = some x →
    ∃ v l, cs = [v] ∧ Forest w (· < w.heap.size) v l ∧ szL l + 1 ≤ Rows.uptoBulk x.1 := by
  intro N
  induction N with
  | zero =>
    intro fuel cs x hN _
    exfalso
    have : 1 ≤ Rows.uptoBulk x.1 := by
      cases x.1 with
      | lit l => cases l <;> simp [Rows.uptoBulk]
      | _ => simp [Rows.uptoBulk]
    omega
  | succ N ih =>
    intro fuel cs x hN h
    rcases Deep.open_slice (e := 32) Tryz.underlying22 h with ⟨rfl, rfl⟩ | ⟨a, len, cap, m, n, D, Pl, rfl, _, hl, _, hmm, rfl, hx⟩
    · exact ⟨_, [], rfl, Forest.nil _ _, by simp [szL, Rows.uptoBulk]⟩
    · have hlm : len ≤ m := by rw [hmm]; split <;> omega
      have hc5 : Tryz.prog.cellsOf 32 = 5 := by kernel_rfl
      have hN' : Rows.uptoBulkAll ((List.range len).map D) + 1 ≤ N + 1 := by
        simp only [Rows.uptoBulk] at hN; omega
      have each : ∀ i, i < len → ∃ q : Sp × Value, (∀ (j : Nat) u, (spCells q.1 q.2)[j]? = some u → w.cell? ((a.add (i * 5)).add j) = some u) ∧ Forest w (· < w.heap.size) q.2 q.1.kids ∧ sz1 q.1 + 1 ≤ Rows.uptoBulk (D i) := by
        intro i hi
        obtain ⟨cs', h1, h2⟩ := hx i (by omega)
        rw [hc5] at h1
        obtain ⟨k, V, DD, hag, hf⟩ := open_fields Tryz.underlying32 (by rw [hc5]; rfl) (fun i f hif => by
          have hi' : i < 5 := (Array.getElem?_eq_some_iff.1 hif).1
          match i, hi' with
          | 0, _ => obtain rfl := Option.some.inj hif; exact ⟨rfl, by kernel_rfl⟩
          | 1, _ => obtain rfl := Option.some.inj hif; exact ⟨rfl, by kernel_rfl⟩
          | 2, _ => obtain rfl := Option.some.inj hif; exact ⟨rfl, by kernel_rfl⟩
          | 3, _ => obtain rfl := Option.some.inj hif; exact ⟨rfl, by kernel_rfl⟩
          | 4, _ => obtain rfl := Option.some.inj hif; exact ⟨rfl, by kernel_rfl⟩) (by rw [hc5]; exact h1) h2
        obtain ⟨c0, g0⟩ := hf 0 _ rfl
        obtain ⟨c1, g1⟩ := hf 1 _ rfl
        obtain ⟨c2, g2⟩ := hf 2 _ rfl
        obtain ⟨c3, g3⟩ := hf 3 _ rfl
        obtain ⟨c4, g4⟩ := hf 4 _ rfl
        obtain ⟨z, e0, d0, w0⟩ := DataW.trod_int Tryz.underlying30 g0
        obtain ⟨s1, e1, d1, _⟩ := DataW.trod_string Tryz.underlying9 g1
        obtain ⟨s2, e2, d2, _⟩ := DataW.trod_string Tryz.underlying9 g2
        obtain ⟨s3, e3, d3, _⟩ := DataW.trod_string Tryz.underlying9 g3
        simp only [List.cons.injEq, and_true] at e0 e1 e2 e3
        have hsum : Rows.uptoBulk (D i) = 1 + (Rows.uptoBulk (DD 0).1 + (Rows.uptoBulk (DD 1).1 + (Rows.uptoBulk (DD 2).1 + (Rows.uptoBulk (DD 3).1 + Rows.uptoBulk (DD 4).1)))) := by
          have hag' : D i = .agg [(DD 0).1, (DD 1).1, (DD 2).1, (DD 3).1, (DD 4).1] := hag
          rw [hag']
          simp only [Rows.uptoBulk, Rows.uptoBulkAll]
          omega
        have hbi := bulk_at (D := D) (r := List.range len) (List.mem_range.2 hi)
        obtain ⟨v, l, e4, hfo, hsz⟩ := ih (x := DD 4) (by omega) g4
        simp only [List.cons.injEq, and_true] at e4
        have hz : 0 ≤ z := by have : 0 ≤ z ∧ z ≤ 255 := by simpa [Lit.wf, IntKind.min, IntKind.max, IntKind.signed, IntKind.bits] using w0
                              exact this.1
        rw [d0, d1, d2, d3] at hsum
        simp only [Rows.uptoBulk] at hsum
        refine ⟨(⟨z.toNat, s1.data.toList, s2.data.toList, s3.data.toList, l⟩, v), fun j u hu => ?_, hfo, ?_⟩
        · match j, hu with
          | 0, hu => simp only [spCells, List.getElem?_cons_zero, Option.some.injEq] at hu; rw [← hu, c0, e0, Int.toNat_of_nonneg hz]
          | 1, hu => simp only [spCells, List.getElem?_cons_succ, List.getElem?_cons_zero, Option.some.injEq] at hu; rw [← hu, c1, e1, strV, byte_back]
          | 2, hu => simp only [spCells, List.getElem?_cons_succ, List.getElem?_cons_zero, Option.some.injEq] at hu; rw [← hu, c2, e2, strV, byte_back]
          | 3, hu => simp only [spCells, List.getElem?_cons_succ, List.getElem?_cons_zero, Option.some.injEq] at hu; rw [← hu, c3, e3, strV, byte_back]
          | 4, hu => simp only [spCells, List.getElem?_cons_succ, List.getElem?_cons_zero, Option.some.injEq] at hu; rw [← hu, c4, e4]
          | j + 5, hu => simp [spCells] at hu
        · simp only [sz1_eq]
          omega
      haveI : Inhabited (Sp × Value) := ⟨(⟨0, [], [], [], []⟩, .slice none 0 0)⟩
      obtain ⟨S, hS⟩ := Deep.choose_lt each
      have hlen : ((List.range len).map fun i => (S i).1).length = len := by simp
      refine ⟨_, (List.range len).map fun i => (S i).1, rfl, ?_, ?_⟩
      · have hF : Forest w (· < w.heap.size) (.slice (some a) ((List.range len).map fun i => (S i).1).length cap) ((List.range len).map fun i => (S i).1) := by
          refine .mk (some a) cap _ ((List.range len).map fun i => (S i).2) (by simp) (by rw [hlen]; exact hl) (fun hn => ?_) (fun j x kv h1 h2 => ?_)
          · have h0 : 0 < len := by
              rcases Nat.eq_zero_or_pos len with h | h
              · subst h; exact absurd rfl hn
              · exact h
            have := (hS 0 h0).1 0 _ rfl
            rw [Nat.zero_mul, Deep.add_add] at this
            obtain ⟨b, off, rfl, hb⟩ := open_addr this
            refine ⟨b, off, rfl, hb, fun j x kv h1 h2 i u hu => ?_⟩
            have hj : j < len := by have := (List.getElem?_eq_some_iff.1 h1).1; simpa using this
            rw [List.getElem?_map, List.getElem?_range hj] at h1 h2
            simp only [Option.map_some, Option.some.injEq] at h1 h2
            subst h1 h2
            have hc := (hS j hj).1 i u hu
            rw [Deep.add_add, Addr.add_lit] at hc
            rw [Nat.add_assoc]; exact hc
          · have hj : j < len := by have := (List.getElem?_eq_some_iff.1 h1).1; simpa using this
            rw [List.getElem?_map, List.getElem?_range hj] at h1 h2
            simp only [Option.map_some, Option.some.injEq] at h1 h2
            subst h1 h2
            exact (hS j hj).2.1
        rw [hlen] at hF
        exact hF
      · have h1 := bulk_map (S := fun i => (S i).1) (D := D) (r := List.range len) fun i hi => (hS i (List.mem_range.1 hi)).2.2
        simp only [Rows.uptoBulk]
        omega
end
set_option maxRecDepth 100000 in
theorem open_spans {H : Type} {enc : TypeId × Value → H} {W : World} {base : Nat} {sp : Nat → Bool} {hd : Bool} {v : Value} {d : DataW H} {p : List MemPlace}
    (hv : Value.okWide Tryz.prog W .any base 22 v) (h : DataW.Trod enc Tryz.prog W 0 sp hd 22 v d p) :
    ∃ l, Forest W (· < W.heap.size) v l ∧ szL l + 1 ≤ Rows.uptoBulk d := by
  obtain ⟨A, l, c, rfl⟩ := okWide_slice Tryz.underlying22 hv
  obtain ⟨fuel, hf⟩ := h
  obtain ⟨v, ls, h1, h2, h3⟩ := open_spans_cells _ (Nat.le_refl _) hf
  simp only [Value.cells, List.cons.injEq, and_true] at h1
  subst h1
  exact ⟨ls, h2, h3⟩
end Go.Proofs.YtmdbhdhfdldegaaGreatDoor
