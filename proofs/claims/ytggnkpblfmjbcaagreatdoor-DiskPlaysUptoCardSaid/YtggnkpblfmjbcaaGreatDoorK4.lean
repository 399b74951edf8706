/-
  What the chapter's laws share, part 4: plain facts, memory, and walks of functions. Its conditions: those that each theorem names.
-/
import Derived.Test.YtggnkpblfmjbcaaGreatDoorK3
set_option linter.unusedSimpArgs false
set_option linter.unusedVariables false
namespace Go.Proofs.YtggnkpblfmjbcaaGreatDoor
open Go.RowKit Go.Bd
theorem strs_info0 : (Tryz.prog.info? 9).map (fun i => (i.zero, i.size, i.bytes)) = some (some (.string ⟨#[]⟩), 1, 16) := by kernel_rfl
set_option maxRecDepth 100000 in
set_option maxHeartbeats 2000000 in
theorem rnames_any {w : World} {O F : Nat → Prop} {db size : Nat} {lv rv : Value} {l : Fs} {h : List Raw} (H : RDs w O F db size lv l rv h) (hl : l.length ≤ 1000000) :
    Calls Tryz.prog 22 #[.pointer (some ⟨db, 0, none⟩)] w fun e w' => ∃ v, e = .returned v ∧ w'.ownsRow w.heap.size 9 1 v l.length (l.map (fun p => .string p.1)) ∧ Below w.heap.size w w' := by
  obtain ⟨A, c, rfl, hcl⟩ : ∃ A c, lv = .slice A l.length c ∧ l.length ≤ c := by
    rcases H.fl.form with ⟨h1, h2⟩ | ⟨g, c, h1, h2, _⟩
    · exact ⟨none, 0, by rw [h1, h2]; rfl, by rw [h2]; exact Nat.le_refl _⟩
    · exact ⟨_, _, h1, h2⟩
  have p1 := H.hold.cell 1
  simp at p1
  have hdb := H.hold.lt
  obtain ⟨n, hnl⟩ : ∃ n, l.length = n := ⟨_, rfl⟩
  have HI := Lib.hid (And.intro H hnl)
  rw [hnl] at p1 hl hcl ⊢
  clear H hnl
  go_enter Tryz.func22, Tryz.ntmps22
  go_wp2
  go_loopg [3, 4] n (fun q vo vi wr => ∃ k : Nat, k + q = n ∧ vi = .int .i64 (k : Int) ∧ Hid (wr.ownsRow w.heap.size 9 1 vo k ((l.take k).map (fun p => .string p.1)) ∧ Below w.heap.size w wr))
  case atStart => exact ⟨0, by omega, rfl, ⟨by simpa using World.ownsRow_nil _ _ _ _, Below.refl _ _⟩⟩
  case round =>
    obtain ⟨k, hk, rfl, HK⟩ := hrel
    have hws := HK.out.2.size
    obtain ⟨OA, oc, rfl, _⟩ := owns_formD HK.out.1
    replace p1 := (HK.out.2.cell (p := ⟨db, 1, none⟩) hdb).trans p1
    by_cases hlt : k < n
    · obtain ⟨p, hp⟩ : ∃ p, l[k]? = some p := ⟨_, List.getElem?_eq_getElem (by have := HI.out.2; omega)⟩
      obtain ⟨g, u, eA, hby, hcs⟩ := HI.out.1.fl.at fileC_len hp
      have hgb : g < w.heap.size := by
        rcases HI.out.1.fl.form with ⟨e1, e2⟩ | ⟨g5, c5, e1, _, _, hg5⟩
        · rw [e2] at hp; simp at hp
        · injection e1 with e1
          rw [eA] at e1
          injection e1 with e1
          injection e1 with e1
          omega
      subst eA
      have c0 := hcs 0 (.string p.1) rfl
      replace c0 := (HK.out.2.cell (p := ⟨g, k * 2 + 0, none⟩) hgb).trans c0
      rw [Nat.add_zero] at c0
      have HP := Lib.hid hp
      clear hcs hby hp
      go_wp2_with (at_builtin; refine wpList_app1 _ rfl _ _ 34 rfl w.heap.size 9 (.string ⟨#[]⟩) 16 Tryz.underlying34 strs_info0 rfl _ k _ rfl (HK.out.1.alloc _) _ 1 (.string p.1) rfl (by simp) rfl (by unfold maxLen; omega) (by omega) (by simp; omega) ?_)
      intro v3 w3 hown3 hgr3
      have hb3 : Below w.heap.size w w3 := (HK.out.2.alloc hws _).grown hgr3 (by simp; omega) (fun q hq => by obtain ⟨_, _, _, hb⟩ := owns_formD HK.out.1; exact (hb q hq).1)
      have htk : l.take (k + 1) = l.take k ++ [p] := by rw [List.take_add_one, HP.out]; rfl
      have H3 : Hid (w3.ownsRow w.heap.size 9 1 v3 (k + 1) ((l.take (k + 1)).map (fun p => .string p.1)) ∧ Below w.heap.size w w3) := by
        refine Lib.hid ⟨?_, hb3⟩
        rw [htk, List.map_append, List.map_take]
        exact hown3
      clear hown3 hgr3 hb3 htk
      go_wp2
      go_roundg (gk - 1)
      case measure => omega
      case rel => exact ⟨k + 1, by omega, by go_num, H3⟩
    · obtain rfl : k = n := by omega
      have ht : l.take k = l := List.take_of_length_le (by rw [HI.out.2]; exact Nat.le_refl _)
      have H9 := HK.out
      rw [ht] at H9
      have H9 := Lib.hid H9
      clear HK
      go_wp2
      go_ret
      exact ⟨_, rfl, H9.out.1, H9.out.2⟩
theorem RDs.new (w : World) (size : Nat) : RDs (w.alloc (.cells #[.int .i64 (size : Int), .slice none 0 0, .slice none 0 0] 74)) (fun k => k = w.heap.size) (fun _ => False) w.heap.size size (.slice none 0 0) (runO []) (.slice none 0 0) [] :=
  ⟨Holds.new w _ _, RowBy.nil, RowBy.nil, rfl, (fun k hk => by cases hk), (fun k hk => by cases hk), (fun k hk => hk.elim), (fun k hk => by subst hk; simp), (fun k hk => hk.elim)⟩
set_option maxRecDepth 100000 in
set_option maxHeartbeats 2000000 in
theorem rnew_any (size : Nat) (hs : size ≤ 8388608) (w : World) :
    Calls Tryz.prog 7 #[.int .i64 (size : Int)] w fun e w' => e = .returned (.tuple #[.pointer (some ⟨w.heap.size, 0, none⟩), .int .i64 0]) ∧ RDs w' (fun k => k = w.heap.size) (fun _ => False) w.heap.size size (.slice none 0 0) (runO []) (.slice none 0 0) [] ∧ Below w.heap.size w w' := by
  go_enter Tryz.func7, Tryz.ntmps7
  go_wp2
  go_ret2
  exact ⟨rfl, RDs.new w size, (Below.refl _ w).alloc (Nat.le_refl _) _⟩
set_option maxRecDepth 100000 in
set_option maxHeartbeats 2000000 in
theorem rnew_bad (size : Int) (hs : size < 0 ∨ 8388608 < size) (w : World) :
    Calls Tryz.prog 7 #[.int .i64 size] w fun e w' => e = .returned (.tuple #[.pointer none, .int .i64 1]) ∧ w' = w := by
  rcases hs with hs | hs
  all_goals
    go_enter Tryz.func7, Tryz.ntmps7
    go_wp2
    go_ret2
    exact ⟨rfl, rfl⟩
def Rk (w : World) (O F : Nat → Prop) (db size : Nat) (h : List Raw) : Prop := ∃ lv rv, RDs w O F db size lv (runO h) rv h
section
variable {w w' : World} {O F S : Nat → Prop} {db size : Nat} {h : List Raw}
theorem Rk.chg (H : Rk w O F db size h) (hc : Chg w w' S) (hO : ∀ k, O k → ¬ S k) (hF : ∀ k, F k → ¬ S k) : Rk w' O F db size h := by
  obtain ⟨lv, rv, H⟩ := H
  exact ⟨lv, rv, H.chg hc hO hF⟩
theorem Rk.below (H : Rk w O F db size h) (hb : Below w.heap.size w w') : Rk w' O F db size h := H.chg (Chg.below hb (fun _ => False)) (fun _ _ h => h) (fun _ _ h => h)
theorem rused_rk (H : Rk w O F db size h) (hf : Fit h) :
    Calls Tryz.prog 23 #[.pointer (some ⟨db, 0, none⟩)] w fun e w' => e = .returned (.int .i64 (usedB (runR h) : Int)) ∧ Below w.heap.size w w' := by
  obtain ⟨lv, rv, H⟩ := H
  obtain ⟨r1, r2, r3, r4, r5⟩ := hf.run
  have := hf.few; have := hf.wt
  rw [← alike_used (alike_all hf.ok)]
  exact rused_any H (by omega) (by omega)
theorem rwrites_rk (H : Rk w O F db size h) :
    Calls Tryz.prog 24 #[.pointer (some ⟨db, 0, none⟩)] w fun e w' => e = .returned (.int .i64 (h.length : Int)) ∧ w' = w := by
  obtain ⟨lv, rv, H⟩ := H
  exact rwrites_any H
theorem rread_rk (H : Rk w O F db size h) (hf : Fit h) (s : ByteArray) (hs : s.size ≤ 140737488355328) :
    Calls Tryz.prog 19 #[.pointer (some ⟨db, 0, none⟩), .string s] w fun e w' => ∃ v', e = .returned (.tuple #[v', .int .i64 ((readB (runR h) s).2 : Int)]) ∧ w'.ownsRow w.heap.size 5 1 v' (readB (runR h) s).1.length (u8L (readB (runR h) s).1) ∧ Below w.heap.size w w' := by
  obtain ⟨lv, rv, H⟩ := H
  obtain ⟨r1, r2, r3, r4, r5⟩ := hf.run
  have := hf.few; have := hf.wt
  have e : readB (runR h) s = readB (runO h) s := by unfold readB; rw [alike_getB hf]
  rw [e]
  exact rread_any H r1 s hs (by omega) r3 (fun p hp => Nat.le_trans (r5 p hp) (by omega))
theorem rnames_rk (H : Rk w O F db size h) (hf : Fit h) :
    Calls Tryz.prog 22 #[.pointer (some ⟨db, 0, none⟩)] w fun e w' => ∃ v, e = .returned v ∧ w'.ownsRow w.heap.size 9 1 v (namesB (runR h)).length ((namesB (runR h)).map Go.Proofs.encStr) ∧ Below w.heap.size w w' := by
  obtain ⟨lv, rv, H⟩ := H
  obtain ⟨r1, r2, r3, r4, r5⟩ := hf.run
  have := hf.few; have := hf.wt
  rw [alike_names (alike_all hf.ok), List.length_map, List.map_map]
  exact rnames_any H (by omega)
theorem does_rk (H : Rk w O F db size h) (hf : Fit h) (r : Raw) (v : Value) (hv : ByR w F v r.b) (hr : r.k ≠ 0 → fnd (runO h) r.n = true) (hn : r.n.size ≤ 80) (hb : r.b.length ≤ 100000000) :
    Calls Tryz.prog 41 #[.pointer (some ⟨db, 0, none⟩), .agg #[.int .i64 (r.k : Int), .string r.n, v]] w fun e w' => e = .returned (.tuple #[]) ∧ ∃ O' F', Rk w' O' F' db size (h ++ [r]) ∧ TurnD w w' O F O' F' := by
  obtain ⟨lv, rv, H⟩ := H
  obtain ⟨r1, r2, r3, r4, r5⟩ := hf.run
  have := hf.few; have := hf.wt
  refine (does_any H r v hv hr r1 (by omega) (by omega) r3 hn (fun p hp => Nat.le_trans (r5 p hp) (by omega)) hb).mono ?_
  rintro e w' ⟨rfl, O', F', lv', rv', h1, h2⟩
  exact ⟨rfl, O', F', ⟨lv', rv', by rw [runO_snoc]; exact h1⟩, h2⟩
theorem fnd_of {h : List Raw} (hf : Fit h) (s : ByteArray) : fnd (runO h) s = (getB (runR h) s).isSome := by
  rw [← alike_getB hf, (asc_get hf.run.1 s).1]
end
end Go.Proofs.YtggnkpblfmjbcaaGreatDoor
namespace Go.Proofs.YtggnkpblfmjbcaaGreatDoor
open Go.RowKit Go.Bd
section
variable {w w' : World} {O F F' S : Nat → Prop} {db size : Nat} {h : List Raw}
theorem Rk.more (H : Rk w O F db size h) (hF : ∀ k, F k → F' k) (ho : ∀ k, F' k → F k ∨ w.heap.size ≤ k) (hl : ∀ k, F' k → k < w'.heap.size) (hc : Chg w w' (fun _ => False)) : Rk w' O F' db size h := by
  obtain ⟨lv, rv, H⟩ := H
  have H2 := H.chg hc (fun _ _ h => h) (fun _ _ h => h)
  refine ⟨lv, rv, H2.more hF (fun k hk hO => ?_) hl⟩
  rcases ho k hk with h1 | h1
  · exact H.off k h1 hO
  · have := H.ltO k hO; omega
theorem does_empty (H : Rk w O F db size h) (hf : Fit h) (s : ByteArray) (hn : s.size ≤ 80) :
    Calls Tryz.prog 41 #[.pointer (some ⟨db, 0, none⟩), .agg #[.int .i64 0, .string s, .slice none 0 0]] w fun e w' => e = .returned (.tuple #[]) ∧ ∃ O' F', Rk w' O' F' db size (h ++ [.empty s]) ∧ TurnD w w' O F O' F' :=
  does_rk H hf (.empty s) _ (ByR.nil w F) (fun e => absurd rfl e) hn (by simp [Raw.b])
theorem does_behind (H : Rk w O F db size h) (hf : Fit h) (s : ByteArray) (hn : s.size ≤ 80) (q : Bs) (v : Value) (hv : ByR w F v q) (hr : fnd (runO h) s = true) (hq : q.length ≤ 100000000) :
    Calls Tryz.prog 41 #[.pointer (some ⟨db, 0, none⟩), .agg #[.int .i64 1, .string s, v]] w fun e w' => e = .returned (.tuple #[]) ∧ ∃ O' F', Rk w' O' F' db size (h ++ [.behind s q]) ∧ TurnD w w' O F O' F' :=
  does_rk H hf (.behind s q) _ hv (fun _ => hr) hn hq
theorem does_gone (H : Rk w O F db size h) (hf : Fit h) (s : ByteArray) (hn : s.size ≤ 80) (hr : fnd (runO h) s = true) :
    Calls Tryz.prog 41 #[.pointer (some ⟨db, 0, none⟩), .agg #[.int .i64 2, .string s, .slice none 0 0]] w fun e w' => e = .returned (.tuple #[]) ∧ ∃ O' F', Rk w' O' F' db size (h ++ [.gone s]) ∧ TurnD w w' O F O' F' :=
  does_rk H hf (.gone s) _ (ByR.nil w F) (fun _ => hr) hn (by simp [Raw.b])
theorem rem_bad {fs : Fs} {s : ByteArray} (hn : nameB s = false) : removeE fs s = 1 ∧ rawsD fs s = [] := by
  have h : removeE fs s = 1 := by unfold removeE; rw [hn]; rfl
  exact ⟨h, by unfold rawsD; rw [h]; rfl⟩
theorem rem_none {fs : Fs} {s : ByteArray} (hn : nameB s = true) (hg : (getB fs s).isSome = false) : removeE fs s = 5 ∧ rawsD fs s = [] := by
  have h : removeE fs s = 5 := by unfold removeE; rw [hn, hg]; rfl
  exact ⟨h, by unfold rawsD; rw [h]; rfl⟩
theorem rem_some {fs : Fs} {s : ByteArray} (hn : nameB s = true) (hg : (getB fs s).isSome = true) : removeE fs s = 0 ∧ rawsD fs s = [.gone s] := by
  have h : removeE fs s = 0 := by unfold removeE; rw [hn, hg]; rfl
  exact ⟨h, by unfold rawsD; rw [h]; rfl⟩
theorem nameB_80 {s : ByteArray} (h : nameB s = true) : s.size ≤ 80 := (of_decide_eq_true h).2.1
set_option maxRecDepth 100000 in
set_option maxHeartbeats 2000000 in
theorem rremove_rk (H : Rk w O F db size h) (hf : Fit h) (s : ByteArray) (hs : s.size ≤ 140737488355328) :
    Calls Tryz.prog 14 #[.pointer (some ⟨db, 0, none⟩), .string s] w fun e w' => e = .returned (.int .i64 (removeE (runR h) s : Int)) ∧ ∃ O' F', Rk w' O' F' db size (h ++ rawsD (runR h) s) ∧ TurnD w w' O F O' F' := by
  have hnm := rname_any s w hs
  have hfo := fnd_of hf s
  obtain ⟨lv, rv, H1⟩ := id H
  obtain ⟨r1, r2, r3, r4, r5⟩ := hf.run
  have hfew := hf.few
  have hpl := place_any H1 s hs (by omega) r3
  have HH := Lib.hid H
  have HF := Lib.hid hf
  clear H H1 r1 r2 r3 r4 r5 hf hfew
  cases hb : nameB s with
  | false =>
    rw [hb] at hnm
    rw [(rem_bad hb).1, (rem_bad hb).2, List.append_nil]
    clear hpl hfo
    go_enter Tryz.func14, Tryz.ntmps14
    go_wp2_with (go_at_call 39; refine hnm.mono ?_; rintro e w1 ⟨rfl, rfl⟩)
    go_ret
    exact ⟨rfl, O, F, HH.out, TurnD.refl _ _ _⟩
  | true =>
    rw [hb] at hnm
    have h80 := nameB_80 hb
    cases hfn : fnd (runO h) s with
    | false =>
      rw [hfn] at hpl hfo
      rw [(rem_none hb hfo.symm).1, (rem_none hb hfo.symm).2, List.append_nil]
      clear hfo
      go_enter Tryz.func14, Tryz.ntmps14
      go_wp2_with (first
        | (go_at_call 39; refine hnm.mono ?_; rintro e w1 ⟨rfl, rfl⟩)
        | (go_at_call 40; refine hpl.mono ?_; rintro e w2 ⟨rfl, hb2⟩))
      go_ret
      exact ⟨rfl, O, F, HH.out.below hb2, TurnD.below hb2⟩
    | true =>
      rw [hfn] at hpl hfo
      rw [(rem_some hb hfo.symm).1, (rem_some hb hfo.symm).2]
      clear hfo
      have hdo := fun (w2 : World) (hb2 : Below w.heap.size w w2) => does_gone (HH.out.below hb2) HF.out s h80 hfn
      have HD := Lib.hid hdo
      clear hdo
      go_enter Tryz.func14, Tryz.ntmps14
      go_wp2_with (first
        | (go_at_call 39; refine hnm.mono ?_; rintro e w1 ⟨rfl, rfl⟩)
        | (go_at_call 40; refine hpl.mono ?_; rintro e w2 ⟨rfl, hb2⟩)
        | (go_at_call 41; refine (HD.out _ hb2).mono ?_; rintro e w3 ⟨rfl, O3, F3, h3, t3⟩))
      go_ret
      exact ⟨rfl, O3, F3, h3, (TurnD.below hb2).trans t3⟩
end
def fstP (q : Bs) (s : ByteArray) (k : Nat) : List Raw := (List.range k).map (fun x => Raw.behind s (pieceAt q x))
theorem fstP_succ (q : Bs) (s : ByteArray) (k : Nat) : fstP q s (k + 1) = fstP q s k ++ [.behind s (pieceAt q k)] := by
  unfold fstP; rw [List.range_succ, List.map_append]; rfl
theorem fstP_all (q : Bs) (s : ByteArray) : fstP q s ((q.length + 511) / 512) = (chunksB q).map (.behind s) := by
  unfold fstP chunksB; rw [List.map_map]; rfl
theorem fstP_len (q : Bs) (s : ByteArray) (k : Nat) : (fstP q s k).length = k := by unfold fstP; simp
theorem fstP_wt (q : Bs) (s : ByteArray) : ∀ k, wtR (fstP q s k) = min q.length (k * 512)
  | 0 => by simp [fstP, wtR]
  | k + 1 => by
    rw [fstP_succ, wtR_append, fstP_wt q s k]
    have e : wtR [Raw.behind s (pieceAt q k)] = (pieceAt q k).length := by simp [wtR, Raw.b]
    rw [e, pieceAt_length]
    omega
theorem run_fst (h : List Raw) (q : Bs) (s : ByteArray) (k : Nat) : runR (h ++ .empty s :: fstP q s k) = setB (runR h) s (q.take (k * 512)) := by
  unfold runR
  rw [List.foldl_append, List.foldl_cons]
  show List.foldl _ (setB _ s []) _ = _
  have e : fstP q s k = ((List.range k).map (pieceAt q)).map (Raw.behind s) := by unfold fstP; rw [List.map_map]; rfl
  rw [e, run_pieces, List.nil_append, pieces_flatten]
theorem _root_.Go.Bd.Fit.fst {h : List Raw} (H : Fit h) {s : ByteArray} (hs : s.size ≤ 80) (q : Bs) : ∀ {k : Nat}, k ≤ (q.length + 511) / 512 → h.length + (q.length + 511) / 512 + 1 ≤ 900000 → wtR h + q.length ≤ 100000000 → Fit (h ++ .empty s :: fstP q s k)
  | 0, _, h1, h2 => H.snoc (r := .empty s) trivial hs (by omega) (by simp [Raw.b]; omega)
  | k + 1, hk, h1, h2 => by
    have ih := Go.Bd.Fit.fst H hs q (k := k) (by omega) h1 h2
    rw [fstP_succ, ← List.cons_append, ← List.append_assoc]
    refine ih.snoc ?_ hs ?_ ?_
    · show (getB (runR (h ++ .empty s :: fstP q s k)) s).isSome = true
      rw [run_fst, getB_set]; simp
    · rw [List.length_append, List.length_cons, fstP_len]; omega
    · rw [wtR_append]
      have e : wtR (Raw.empty s :: fstP q s k) = wtR (fstP q s k) := by simp [wtR, Raw.b]
      rw [e, fstP_wt]
      show _ + (pieceAt q k).length ≤ _
      rw [pieceAt_length]
      omega
theorem fnd_fst {h : List Raw} (H : Fit h) {s : ByteArray} (hs : s.size ≤ 80) (q : Bs) {k : Nat} (hk : k ≤ (q.length + 511) / 512) (h1 : h.length + (q.length + 511) / 512 + 1 ≤ 900000) (h2 : wtR h + q.length ≤ 100000000) : fnd (runO (h ++ .empty s :: fstP q s k)) s = true := by
  rw [fnd_of (H.fst hs q hk h1 h2), run_fst, getB_set]
  simp
end Go.Proofs.YtggnkpblfmjbcaaGreatDoor
namespace Go.Proofs.YtggnkpblfmjbcaaGreatDoor
open Go.RowKit Go.Bd
theorem writeE_some {fs : Fs} {size : Nat} {s : ByteArray} {q o : Bs} (hn : nameB s = true) (hg : getB fs s = some o) : writeE fs size s q = if (size : Int) < (usedB fs : Int) + q.length - o.length then 6 else 0 := by
  unfold writeE
  rw [hn, hg]
  simp only [if_true, Option.isNone_some, Bool.false_eq_true, false_and, if_false, Option.getD_some]
  by_cases h : (size : Int) < (usedB fs : Int) + q.length - o.length
  · rw [if_pos h, if_pos (by omega)]
  · rw [if_neg h, if_neg (by omega)]
theorem writeE_none {fs : Fs} {size : Nat} {s : ByteArray} {q : Bs} (hn : nameB s = true) (hg : getB fs s = none) : writeE fs size s q = if 256 ≤ fs.length ∨ (size : Int) < (usedB fs : Int) + q.length then 6 else 0 := by
  unfold writeE
  rw [hn, hg]
  simp only [if_true, Option.isNone_none, true_and, Option.getD_none, List.length_nil]
  split
  · rw [if_pos (.inl ‹_›)]
  · split
    · rw [if_pos (.inr (by omega))]
    · rw [if_neg (by omega)]
theorem writeE_bad {fs : Fs} {size : Nat} {s : ByteArray} {q : Bs} (hn : nameB s = false) : writeE fs size s q = 1 := by
  unfold writeE; rw [hn]; rfl
abbrev WrSt (w wr : World) (O F : Nat → Prop) (db size : Nat) (h : List Raw) (s : ByteArray) (q : Bs) (k : Nat) (vb : Value) : Prop :=
  ∃ O1 F1, Rk wr O1 F1 db size (h ++ .empty s :: fstP q s k) ∧ TurnD w wr O F O1 F1 ∧ ByR wr F1 vb (q.drop (k * 512))
theorem WrSt.next {w wr w9 : World} {O F O1 F1 : Nat → Prop} {db size : Nat} {h : List Raw} {s : ByteArray} {q : Bs} {k : Nat} (H : Rk wr O1 F1 db size (h ++ .empty s :: fstP q s k)) (T : TurnD w wr O F O1 F1)
    {v : Value} (ho : w9.ownsRow wr.heap.size 5 1 v (pieceAt q k).length (u8L (pieceAt q k))) (hc : Chg wr w9 (fun _ => False)) :
    Rk w9 O1 (fun b => F1 b ∨ (wr.heap.size ≤ b ∧ b < w9.heap.size)) db size (h ++ .empty s :: fstP q s k) ∧ TurnD w w9 O F O1 (fun b => F1 b ∨ (wr.heap.size ≤ b ∧ b < w9.heap.size)) ∧ ByR w9 (fun b => F1 b ∨ (wr.heap.size ≤ b ∧ b < w9.heap.size)) v (pieceAt q k) := by
  have hlt : ∀ b, F1 b → b < wr.heap.size := by
    obtain ⟨lv, rv, H⟩ := H
    exact H.ltF
  have hsz := hc.size
  refine ⟨H.more (fun b hb => .inl hb) (fun b hb => ?_) (fun b hb => ?_) hc, T.trans ⟨hc.mono (fun _ _ h => h.elim), fun b hb => .inl hb, fun b hb => ?_, fun b hb => .inl hb⟩, (ByR.own ho).chg (Chg.refl w9 (fun _ => False)) (fun b hb => .inr hb) (fun _ _ h => h)⟩
  · rcases hb with hb | hb
    · exact .inl hb
    · exact .inr hb.1
  · rcases hb with hb | hb
    · have := hlt b hb; omega
    · exact hb.2
  · rcases hb with hb | hb
    · exact .inl hb
    · exact .inr hb.1
theorem ByR.rest {w : World} {F : Nat → Prop} {bb off m c : Nat} {q : Bs} (h : ByR w F (.slice (some ⟨bb, off, none⟩) m c) q) (n : Nat) (hn : n ≤ m) {A : Option Addr} {m' c' : Nat} (hm : m' = m - n) (hc : m' ≤ c') (hA : m' ≠ 0 → A = some ⟨bb, off + n, none⟩) : ByR w F (.slice A m' c') (q.drop n) := by
  obtain ⟨A1, c1, h1, h2, h3⟩ := h
  injection h1 with e1 e2 e3
  subst e1
  have hl : (q.drop n).length = m' := by rw [List.length_drop]; omega
  rw [← hl] at hc ⊢
  refine ⟨A, c', rfl, hc, fun h0 => ?_⟩
  have hm0 : m' ≠ 0 := fun e => h0 (List.length_eq_zero_iff.1 (by omega))
  obtain ⟨b, o, h4, h5, h6⟩ := h3 (fun e => h0 (by rw [e, List.drop_nil]))
  injection h4 with h4
  injection h4 with h4 h7
  subst h4; subst h7
  refine ⟨bb, off + n, hA hm0, h5, fun j u hj => ?_⟩
  rw [Nat.add_assoc]
  refine h6 (n + j) u ?_
  unfold u8L at *
  rw [List.map_drop, List.getElem?_drop] at hj
  exact hj
theorem drop_next (q : Bs) (k : Nat) : (q.drop (k * 512)).drop (min (q.length - k * 512) 512) = q.drop ((k + 1) * 512) := by
  rw [List.drop_drop]
  by_cases h : q.length - k * 512 ≤ 512
  · rw [Nat.min_eq_left h, List.drop_of_length_le (by omega), List.drop_of_length_le (by omega)]
  · have e : k * 512 + 512 = (k + 1) * 512 := by omega
    rw [Nat.min_eq_right (by omega), e]
set_option maxRecDepth 100000 in
set_option maxHeartbeats 4000000 in
theorem rwrite_rk {w : World} {O F : Nat → Prop} {db size : Nat} {h : List Raw} (H : Rk w O F db size h) (hf : Fit h) (s : ByteArray) (hs : s.size ≤ 140737488355328) (q : Bs) (v : Value) (hv : ByR w F v q) (hq : q.length ≤ 10000000)
    (hl : h.length + (q.length + 511) / 512 + 1 ≤ 900000) (hw : wtR h + q.length ≤ 100000000) (hsz : size ≤ 8388608) (h256 : (runR h).length ≤ 256) :
    Calls Tryz.prog 17 #[.pointer (some ⟨db, 0, none⟩), .string s, v] w fun e w' => e = .returned (.int .i64 (writeE (runR h) size s q : Int)) ∧ ∃ O' F', Rk w' O' F' db size (h ++ rawsW (runR h) size s q) ∧ TurnD w w' O F O' F' := by
  have hnm := rname_any s w hs
  have hfo := fnd_of hf s
  have hal := alike_all hf.ok
  have hll : (runO h).length = (runR h).length := (alike_perm hal).length_eq
  have hus := alike_used hal
  obtain ⟨r1, r2, r3, r4, r5⟩ := hf.run
  have hfew := hf.few
  have hwt := hf.wt
  have hagB := alike_getB hf s
  have HAG := Lib.hid (asc_get r1 s)
  obtain ⟨lv, rv, H1⟩ := id H
  have hpl := place_any H1 s hs (by omega) r3
  have hru := fun (w2 : World) (hb2 : Below w.heap.size w w2) => rused_rk (H.below hb2) hf
  have HRU := Lib.hid hru
  have p0 := H1.hold.cell 0
  have p1 := H1.hold.cell 1
  simp at p0 p1
  have hdb := H1.hold.lt
  obtain ⟨b0, hb0, hw0, hw1, hw2⟩ := info_parts byt_info
  have HBI := Lib.hid (And.intro hb0 (And.intro hw0 (And.intro hw1 hw2)))
  obtain ⟨LA, lc, rfl⟩ : ∃ A c, lv = .slice A (runO h).length c := by
    rcases H1.fl.form with ⟨h1, h2⟩ | ⟨g, c, h1, h2, _⟩
    · exact ⟨none, 0, by rw [h1, h2]; rfl⟩
    · exact ⟨_, _, h1⟩
  obtain ⟨VA, vc, rfl, hvc, hvA⟩ := id hv
  have HV := Lib.hid hv
  have HH := Lib.hid H
  have HF := Lib.hid hf
  have HFL := Lib.hid H1.fl
  have HLIM := Lib.hid (And.intro hl hw)
  have hcells : Hid (fnd (runO h) s = true → ∃ g o oc u, LA = some ⟨g, 0, none⟩ ∧ plc (runO h) s < (runO h).length ∧ w.cell? ⟨g, plc (runO h) s * 2 + 1, none⟩ = some (.slice u o.length oc) ∧ g < w.heap.size ∧ getB (runR h) s = some o ∧ o.length ≤ usedB (runR h) ∧ (runO h).length ≤ lc) := fun hfn => by
    obtain ⟨p, hp, hpn⟩ := fnd_some hfn
    have hg := (HAG.out.2 p hfn hp).2
    rcases H1.fl.form with ⟨e1, e2⟩ | ⟨g5, c5, e1, hlc, hcm, hg5⟩
    · rw [e2] at hp; simp at hp
    · injection e1 with e1 e2 e3
      subst e1; subst e3
      obtain ⟨g6, u6, eg, hby, hcs6⟩ := H1.fl.at fileC_len hp
      obtain rfl : g5 = g6 := by injection eg with e; injection e
      have c1 := hcs6 1 u6 rfl
      obtain ⟨A', c', rfl, hc', hbv⟩ := hby
      refine ⟨g5, p.2, c', A', rfl, (List.getElem?_eq_some_iff.1 hp).1, c1, hg5, by rw [← hagB]; exact hg, ?_, hlc⟩
      rw [← hus]
      exact used_mem (List.mem_of_getElem? hp)
  clear H1 hv hvA H hf HFL hb0 hw0 hw1 hw2 hal r1 r2 r3 r4 r5
  have hub : usedB (runR h) ≤ 100000000 := by
    have := HF.out.run.2.2.2.1
    rw [hus] at this; omega
  clear hus
  have HEND : Hid (∀ w5 : World, TurnD w w5 O F O F → Rk w5 O F db size h → ByR w5 F (.slice VA q.length vc) q → nameB s = true → Calls Tryz.prog 41 #[.pointer (some ⟨db, 0, none⟩), .agg #[.int .i64 0, .string s, .slice none 0 0]] w5 fun e w' => e = .returned (.tuple #[]) ∧ WrSt w w' O F db size h s q 0 (.slice VA q.length vc)) := fun w5 t5 h5 v5 hn => by
    refine (does_empty h5 HF.out s (nameB_80 hn)).mono ?_
    rintro e w6 ⟨rfl, O6, F6, h6, t6⟩
    refine ⟨rfl, O6, F6, by simpa [fstP] using h6, t5.trans t6, ?_⟩
    rw [Nat.zero_mul, List.drop_zero]
    have hoff : ∀ k, F k → ¬ O k := by
      obtain ⟨lv, rv, h5⟩ := h5
      exact h5.off
    exact v5.chg t6.chg (fun k hk => t6.moF k hk) hoff
  cases hb : nameB s with
  | false =>
    rw [hb] at hnm
    have hE := writeE_bad (fs := runR h) (size := size) (q := q) hb
    have hR : rawsW (runR h) size s q = [] := by unfold rawsW; rw [hE]; rfl
    rw [hE, hR, List.append_nil]
    clear hpl hfo hcells HEND hE hR
    go_enter Tryz.func17, Tryz.ntmps17
    go_wp2_with (go_at_call 39; refine hnm.mono ?_; rintro e w1 ⟨rfl, rfl⟩)
    go_ret
    exact ⟨rfl, O, F, HH.out, TurnD.refl _ _ _⟩
  | true =>
    rw [hb] at hnm
    cases hfn : fnd (runO h) s with
    | false =>
      rw [hfn] at hpl hfo
      have hg : getB (runR h) s = none := by
        cases e : getB (runR h) s with
        | none => rfl
        | some c => rw [e] at hfo; cases hfo
      have hE := writeE_none (fs := runR h) (size := size) (q := q) hb hg
      clear hfo hcells hagB
      by_cases hfull : 256 ≤ (runR h).length ∨ (size : Int) < (usedB (runR h) : Int) + q.length
      · rw [if_pos hfull] at hE
        have hR : rawsW (runR h) size s q = [] := by unfold rawsW; rw [hE]; rfl
        rw [hE, hR, List.append_nil]
        clear hE hR HEND
        rw [hll] at p1
        obtain ⟨u, hu⟩ : ∃ u, usedB (runR h) = u := ⟨_, rfl⟩
        obtain ⟨n, hn⟩ : ∃ n, (runR h).length = n := ⟨_, rfl⟩
        rw [hu] at hfull hub
        rw [hn] at hfull h256 p1
        have HRU : Hid (∀ (w2 : World), Below w.heap.size w w2 → Calls Tryz.prog 23 #[.pointer (some ⟨db, 0, none⟩)] w2 fun e w' => e = .returned (.int .i64 (u : Int)) ∧ Below w2.heap.size w2 w') := by rw [← hu]; exact HRU
        have hll : Hid ((runO h).length = n) := Lib.hid (by rw [hll, hn])
        clear hu hn
        go_enter Tryz.func17, Tryz.ntmps17
        go_wp2_with (first
          | (go_at_call 39; refine hnm.mono ?_; rintro e w1 ⟨rfl, hw1⟩; subst w1)
          | (go_at_call 40; refine hpl.mono ?_; rintro e w2 ⟨rfl, hb2⟩;  have p0' := (hb2.cell (p := ⟨db, 0, none⟩) hdb).trans p0; have p1' := (hb2.cell (p := ⟨db, 1, none⟩) hdb).trans p1)
          | (go_at_call 23; refine (HRU.out _ hb2).mono ?_; rintro e w3 ⟨rfl, hb3⟩; have hs3 := hb3.size; have hb23 := hb2.trans (hb3.mono hb2.size);  replace p0' := (hb23.cell (p := ⟨db, 0, none⟩) hdb).trans p0; replace p1' := (hb23.cell (p := ⟨db, 1, none⟩) hdb).trans p1))
        all_goals
          go_ret
          exact ⟨rfl, O, F, HH.out.below hb23, TurnD.below hb23⟩
      · rw [if_neg hfull] at hE
        have hR : rawsW (runR h) size s q = .empty s :: (chunksB q).map (.behind s) := by unfold rawsW; rw [hE]; rfl
        rw [hE, hR]
        clear hE hR
        rw [hll] at p1
        obtain ⟨u, hu⟩ : ∃ u, usedB (runR h) = u := ⟨_, rfl⟩
        obtain ⟨n, hn⟩ : ∃ n, (runR h).length = n := ⟨_, rfl⟩
        rw [hu] at hfull hub
        rw [hn] at hfull h256 p1
        have HRU : Hid (∀ (w2 : World), Below w.heap.size w w2 → Calls Tryz.prog 23 #[.pointer (some ⟨db, 0, none⟩)] w2 fun e w' => e = .returned (.int .i64 (u : Int)) ∧ Below w2.heap.size w2 w') := by rw [← hu]; exact HRU
        have hll : Hid ((runO h).length = n) := Lib.hid (by rw [hll, hn])
        clear hu hn
        go_enter Tryz.func17, Tryz.ntmps17
        go_wp2_with (first
          | (go_at_call 39; refine hnm.mono ?_; rintro e w1 ⟨rfl, hw1⟩; subst w1)
          | (go_at_call 40; refine hpl.mono ?_; rintro e w2 ⟨rfl, hb2⟩;  have p0' := (hb2.cell (p := ⟨db, 0, none⟩) hdb).trans p0; have p1' := (hb2.cell (p := ⟨db, 1, none⟩) hdb).trans p1)
          | (go_at_call 23; refine (HRU.out _ hb2).mono ?_; rintro e w3 ⟨rfl, hb3⟩; have hs3 := hb3.size; have hb23 := hb2.trans (hb3.mono hb2.size);  replace p0' := (hb23.cell (p := ⟨db, 0, none⟩) hdb).trans p0; replace p1' := (hb23.cell (p := ⟨db, 1, none⟩) hdb).trans p1)
          | (go_at_call 41; refine (HEND.out _ (TurnD.below hb23) (HH.out.below hb23) (HV.out.chg (Chg.below hb23 (fun _ => False)) (fun _ h => h) (fun _ _ h => h)) hb).mono ?_; rintro e w4 ⟨rfl, hW6⟩))
        have H6 := Lib.hid hW6
        clear hW6
        obtain ⟨N, hN⟩ : ∃ N, (q.length + 511) / 512 = N := ⟨_, rfl⟩
        have HN := Lib.hid hN
        clear hN
        go_wp2_with fail
        go_loopg [2, 11] N (fun gq vb vn wr => ∃ k : Nat, k + gq = N ∧ Hid (WrSt w wr O F db size h s q k vb))
        case atStart => exact ⟨0, by omega, H6.out⟩
        case round =>
          obtain ⟨k, hk, HS⟩ := hrel
          obtain ⟨O1, F1, h1, t1, v1⟩ := HS.out
          obtain ⟨A1, ac, rfl, hac, hA1⟩ := id v1
          have HV1 := Lib.hid v1
          have HH1 := Lib.hid h1
          have HT1 := Lib.hid t1
          have hdl : (q.drop (k * 512)).length = q.length - k * 512 := List.length_drop ..
          obtain ⟨m, hm⟩ : ∃ m, (q.drop (k * 512)).length = m := ⟨_, rfl⟩
          rw [hm] at hac hdl
          have HA1 := Lib.hid hA1
          have HM := Lib.hid hm
          clear h1 t1 v1 hA1 HS H6 hru hfew hwt hpl hnm
          by_cases hlt : k * 512 < q.length
          · have hm0 : 0 < m := by omega
            have hq0 : q.drop (k * 512) ≠ [] := fun e => by have := HM.out; rw [e] at this; simp at this; omega
            obtain ⟨bb, off, rfl, hFb, hcs⟩ := HA1.out hq0
            have HCS := Lib.hid hcs
            have HFb := Lib.hid hFb
            have HM2 := Lib.hid (And.intro hdl HM.out)
            rw [HM.out]
            clear hcs hFb HA1 hdl
            have hpl0 : (min (m : Int) 512).toNat = (pieceAt q k).length := by rw [pieceAt_length]; have := HM2.out.1; omega
            have hpb : (pieceAt q k).length ≤ 512 := by rw [pieceAt_length]; omega
            have HPL := Lib.hid hpl0
            have HNW : Hid (∀ j u, (u8L (pieceAt q k))[j]? = some u → ∃ ad, some (⟨bb, off, none⟩ : Addr) = some ad ∧ wr.cell? (ad.add j) = some u) := fun j u hu => ⟨_, rfl, by
              rw [addr_addN]
              refine HCS.out j u ?_
              unfold u8L pieceAt at *
              rw [List.map_take] at hu
              by_cases hj : j < 512
              · rwa [List.getElem?_take_of_lt hj] at hu
              · rw [List.getElem?_eq_none (by rw [List.length_take]; omega)] at hu; cases hu⟩
            have hkN : k ≤ (q.length + 511) / 512 := by omega
            have h80 := nameB_80 hb
            have HFF := Lib.hid (And.intro (HF.out.fst h80 q hkN HLIM.out.1 HLIM.out.2) (fnd_fst HF.out h80 q hkN HLIM.out.1 HLIM.out.2))
            clear hpl0
            go_wp2_with (first
              | (at_builtin; refine wpList_append_all (by rfl) _ _ _ (by rfl) wr.heap.size 5 b0 _ 1 1 under_bytes HBI.out.1 HBI.out.2.1 HBI.out.2.2.1 HBI.out.2.2.2 rfl (by omega) (.slice none 0 0) 0 [] (by rfl) (World.ownsRow_nil _ _ _ _) _ _ _ (u8L (pieceAt q k)) (by rfl) (by rw [u8L_length, Nat.mul_one, HPL.out]) HNW.out (fun u hu => u8L_one hu) (pieceAt q k).length (by rw [Nat.zero_add, HPL.out]) (u8L (pieceAt q k)) (List.nil_append _) (by unfold maxLen; omega) (by omega) (Nat.le_refl _) ?_; intro A9 c9 w9 ho9 hg9 hat9; have X := WrSt.next HH1.out HT1.out ho9 ((Chg.grown hg9).mono (fun _ _ h => by cases h)); have HX := Lib.hid X; have hdo := does_behind X.1 HFF.out.1 s h80 (pieceAt q k) _ X.2.2 HFF.out.2 (by omega); have HC9 : Hid (Chg wr w9 (fun _ => False)) := Lib.hid ((Chg.grown hg9).mono (fun _ _ h => by cases h)); clear X ho9 hg9 hat9)
              | (go_at_call 41; refine hdo.mono ?_; clear hdo; rintro e w10 ⟨rfl, O2, F2, h2, t2⟩; have H10 := Lib.hid (And.intro h2 t2); clear h2 t2))
            all_goals
              have hO9 : ∀ b, (F1 b ∨ wr.heap.size ≤ b ∧ b < w9.heap.size) → ¬ O1 b := by
                obtain ⟨lv, rv, h9⟩ := HX.out.1
                exact h9.off
              have hv1 := HV1.out
              rw [HM2.out.2] at hv1
              have hv2 := (hv1.chg HC9.out (fun b hb => Or.inl (b := wr.heap.size ≤ b ∧ b < w9.heap.size) hb) (fun _ _ h => h)).chg H10.out.2.chg (fun b hb => H10.out.2.moF b hb) hO9
              have hm2 := HM2.out.1
              have hmn : (min (m : Int) 512).toNat = min m 512 := by omega
              have hgk : k < N := by have := HN.out; omega
              go_roundg (gk - 1)
              case measure => omega
              case rel =>
                refine ⟨k + 1, by omega, Lib.hid ⟨O2, F2, ?_, HX.out.2.1.trans H10.out.2, ?_⟩⟩
                · rw [fstP_succ, ← List.cons_append, ← List.append_assoc]
                  exact H10.out.1
                · rw [← drop_next, ← hm2]
                  refine hv2.rest (min m 512) (by omega) (by rw [hmn]) (by rw [hmn]; omega) (fun hne => ?_)
                  rw [hmn] at hne
                  first
                  | (exfalso; rw [hmn] at *; omega)
                  | rw [hmn]
          · have hkN : k = N := by have := HN.out; omega
            subst hkN
            have hm0 : m = 0 := by omega
            subst hm0
            have hch : fstP q s k = (chunksB q).map (.behind s) := by rw [← fstP_all, HN.out]
            have HCH := Lib.hid hch
            rw [HM.out]
            clear HA1 hch
            go_wp2
            go_ret
            exact ⟨rfl, O1, F1, by rw [← HCH.out]; exact HH1.out, HT1.out⟩
    | true =>
      rw [hfn] at hpl hfo
      obtain ⟨g5, o, oc, OA, hLA, hplt, c1, hg5, hgo, hou, hlc⟩ := hcells.out hfn
      subst hLA
      have hE := writeE_some (fs := runR h) (size := size) (q := q) hb hgo
      clear hfo hcells hagB
      by_cases hfull : (size : Int) < (usedB (runR h) : Int) + q.length - o.length
      · rw [if_pos hfull] at hE
        have hR : rawsW (runR h) size s q = [] := by unfold rawsW; rw [hE]; rfl
        rw [hE, hR, List.append_nil]
        clear hE hR HEND
        rw [hll] at p1
        obtain ⟨u, hu⟩ : ∃ u, usedB (runR h) = u := ⟨_, rfl⟩
        obtain ⟨n, hn⟩ : ∃ n, (runR h).length = n := ⟨_, rfl⟩
        rw [hu] at hfull hub hou
        rw [hn] at h256 p1
        have HRU : Hid (∀ (w2 : World), Below w.heap.size w w2 → Calls Tryz.prog 23 #[.pointer (some ⟨db, 0, none⟩)] w2 fun e w' => e = .returned (.int .i64 (u : Int)) ∧ Below w2.heap.size w2 w') := by rw [← hu]; exact HRU
        have hll : Hid ((runO h).length = n) := Lib.hid (by rw [hll, hn])
        clear hu hn
        rw [hll.out] at hplt hlc
        have hpn : plc (runO h) s < n := hplt
        obtain ⟨pl, hpl'⟩ : ∃ pl, plc (runO h) s = pl := ⟨_, rfl⟩
        rw [hpl'] at hpl c1 hplt hpn
        clear hpl'
        go_enter Tryz.func17, Tryz.ntmps17
        go_wp2_with (first
          | (go_at_call 39; refine hnm.mono ?_; rintro e w1 ⟨rfl, hw1⟩; subst w1)
          | (go_at_call 40; refine hpl.mono ?_; rintro e w2 ⟨rfl, hb2⟩; have c2 := (hb2.cell (p := ⟨g5, pl * 2 + 1, none⟩) hg5).trans c1; have p0' := (hb2.cell (p := ⟨db, 0, none⟩) hdb).trans p0; have p1' := (hb2.cell (p := ⟨db, 1, none⟩) hdb).trans p1)
          | (go_at_call 23; refine (HRU.out _ hb2).mono ?_; rintro e w3 ⟨rfl, hb3⟩; have hs3 := hb3.size; have hb23 := hb2.trans (hb3.mono hb2.size); have c3 := (hb23.cell (p := ⟨g5, pl * 2 + 1, none⟩) hg5).trans c1; replace p0' := (hb23.cell (p := ⟨db, 0, none⟩) hdb).trans p0; replace p1' := (hb23.cell (p := ⟨db, 1, none⟩) hdb).trans p1))
        all_goals
          go_ret
          exact ⟨rfl, O, F, HH.out.below hb23, TurnD.below hb23⟩
      · rw [if_neg hfull] at hE
        have hR : rawsW (runR h) size s q = .empty s :: (chunksB q).map (.behind s) := by unfold rawsW; rw [hE]; rfl
        rw [hE, hR]
        clear hE hR
        rw [hll] at p1
        obtain ⟨u, hu⟩ : ∃ u, usedB (runR h) = u := ⟨_, rfl⟩
        obtain ⟨n, hn⟩ : ∃ n, (runR h).length = n := ⟨_, rfl⟩
        rw [hu] at hfull hub hou
        rw [hn] at h256 p1
        have HRU : Hid (∀ (w2 : World), Below w.heap.size w w2 → Calls Tryz.prog 23 #[.pointer (some ⟨db, 0, none⟩)] w2 fun e w' => e = .returned (.int .i64 (u : Int)) ∧ Below w2.heap.size w2 w') := by rw [← hu]; exact HRU
        have hll : Hid ((runO h).length = n) := Lib.hid (by rw [hll, hn])
        clear hu hn
        rw [hll.out] at hplt hlc
        have hpn : plc (runO h) s < n := hplt
        obtain ⟨pl, hpl'⟩ : ∃ pl, plc (runO h) s = pl := ⟨_, rfl⟩
        rw [hpl'] at hpl c1 hplt hpn
        clear hpl'
        go_enter Tryz.func17, Tryz.ntmps17
        go_wp2_with (first
          | (go_at_call 39; refine hnm.mono ?_; rintro e w1 ⟨rfl, hw1⟩; subst w1)
          | (go_at_call 40; refine hpl.mono ?_; rintro e w2 ⟨rfl, hb2⟩; have c2 := (hb2.cell (p := ⟨g5, pl * 2 + 1, none⟩) hg5).trans c1; have p0' := (hb2.cell (p := ⟨db, 0, none⟩) hdb).trans p0; have p1' := (hb2.cell (p := ⟨db, 1, none⟩) hdb).trans p1)
          | (go_at_call 23; refine (HRU.out _ hb2).mono ?_; rintro e w3 ⟨rfl, hb3⟩; have hs3 := hb3.size; have hb23 := hb2.trans (hb3.mono hb2.size); have c3 := (hb23.cell (p := ⟨g5, pl * 2 + 1, none⟩) hg5).trans c1; replace p0' := (hb23.cell (p := ⟨db, 0, none⟩) hdb).trans p0; replace p1' := (hb23.cell (p := ⟨db, 1, none⟩) hdb).trans p1)
          | (go_at_call 41; refine (HEND.out _ (TurnD.below hb23) (HH.out.below hb23) (HV.out.chg (Chg.below hb23 (fun _ => False)) (fun _ h => h) (fun _ _ h => h)) hb).mono ?_; rintro e w4 ⟨rfl, hW6⟩))
        have H6 := Lib.hid hW6
        clear hW6
        obtain ⟨N, hN⟩ : ∃ N, (q.length + 511) / 512 = N := ⟨_, rfl⟩
        have HN := Lib.hid hN
        clear hN
        go_wp2_with fail
        go_loopg [2, 11] N (fun gq vb vn wr => ∃ k : Nat, k + gq = N ∧ Hid (WrSt w wr O F db size h s q k vb))
        case atStart => exact ⟨0, by omega, H6.out⟩
        case round =>
          obtain ⟨k, hk, HS⟩ := hrel
          obtain ⟨O1, F1, h1, t1, v1⟩ := HS.out
          obtain ⟨A1, ac, rfl, hac, hA1⟩ := id v1
          have HV1 := Lib.hid v1
          have HH1 := Lib.hid h1
          have HT1 := Lib.hid t1
          have hdl : (q.drop (k * 512)).length = q.length - k * 512 := List.length_drop ..
          obtain ⟨m, hm⟩ : ∃ m, (q.drop (k * 512)).length = m := ⟨_, rfl⟩
          rw [hm] at hac hdl
          have HA1 := Lib.hid hA1
          have HM := Lib.hid hm
          clear h1 t1 v1 hA1 HS H6 hru hfew hwt hpl hnm
          by_cases hlt : k * 512 < q.length
          · have hm0 : 0 < m := by omega
            have hq0 : q.drop (k * 512) ≠ [] := fun e => by have := HM.out; rw [e] at this; simp at this; omega
            obtain ⟨bb, off, rfl, hFb, hcs⟩ := HA1.out hq0
            have HCS := Lib.hid hcs
            have HFb := Lib.hid hFb
            have HM2 := Lib.hid (And.intro hdl HM.out)
            rw [HM.out]
            clear hcs hFb HA1 hdl
            have hpl0 : (min (m : Int) 512).toNat = (pieceAt q k).length := by rw [pieceAt_length]; have := HM2.out.1; omega
            have hpb : (pieceAt q k).length ≤ 512 := by rw [pieceAt_length]; omega
            have HPL := Lib.hid hpl0
            have HNW : Hid (∀ j u, (u8L (pieceAt q k))[j]? = some u → ∃ ad, some (⟨bb, off, none⟩ : Addr) = some ad ∧ wr.cell? (ad.add j) = some u) := fun j u hu => ⟨_, rfl, by
              rw [addr_addN]
              refine HCS.out j u ?_
              unfold u8L pieceAt at *
              rw [List.map_take] at hu
              by_cases hj : j < 512
              · rwa [List.getElem?_take_of_lt hj] at hu
              · rw [List.getElem?_eq_none (by rw [List.length_take]; omega)] at hu; cases hu⟩
            have hkN : k ≤ (q.length + 511) / 512 := by omega
            have h80 := nameB_80 hb
            have HFF := Lib.hid (And.intro (HF.out.fst h80 q hkN HLIM.out.1 HLIM.out.2) (fnd_fst HF.out h80 q hkN HLIM.out.1 HLIM.out.2))
            clear hpl0
            go_wp2_with (first
              | (at_builtin; refine wpList_append_all (by rfl) _ _ _ (by rfl) wr.heap.size 5 b0 _ 1 1 under_bytes HBI.out.1 HBI.out.2.1 HBI.out.2.2.1 HBI.out.2.2.2 rfl (by omega) (.slice none 0 0) 0 [] (by rfl) (World.ownsRow_nil _ _ _ _) _ _ _ (u8L (pieceAt q k)) (by rfl) (by rw [u8L_length, Nat.mul_one, HPL.out]) HNW.out (fun u hu => u8L_one hu) (pieceAt q k).length (by rw [Nat.zero_add, HPL.out]) (u8L (pieceAt q k)) (List.nil_append _) (by unfold maxLen; omega) (by omega) (Nat.le_refl _) ?_; intro A9 c9 w9 ho9 hg9 hat9; have X := WrSt.next HH1.out HT1.out ho9 ((Chg.grown hg9).mono (fun _ _ h => by cases h)); have HX := Lib.hid X; have hdo := does_behind X.1 HFF.out.1 s h80 (pieceAt q k) _ X.2.2 HFF.out.2 (by omega); have HC9 : Hid (Chg wr w9 (fun _ => False)) := Lib.hid ((Chg.grown hg9).mono (fun _ _ h => by cases h)); clear X ho9 hg9 hat9)
              | (go_at_call 41; refine hdo.mono ?_; clear hdo; rintro e w10 ⟨rfl, O2, F2, h2, t2⟩; have H10 := Lib.hid (And.intro h2 t2); clear h2 t2))
            all_goals
              have hO9 : ∀ b, (F1 b ∨ wr.heap.size ≤ b ∧ b < w9.heap.size) → ¬ O1 b := by
                obtain ⟨lv, rv, h9⟩ := HX.out.1
                exact h9.off
              have hv1 := HV1.out
              rw [HM2.out.2] at hv1
              have hv2 := (hv1.chg HC9.out (fun b hb => Or.inl (b := wr.heap.size ≤ b ∧ b < w9.heap.size) hb) (fun _ _ h => h)).chg H10.out.2.chg (fun b hb => H10.out.2.moF b hb) hO9
              have hm2 := HM2.out.1
              have hmn : (min (m : Int) 512).toNat = min m 512 := by omega
              have hgk : k < N := by have := HN.out; omega
              go_roundg (gk - 1)
              case measure => omega
              case rel =>
                refine ⟨k + 1, by omega, Lib.hid ⟨O2, F2, ?_, HX.out.2.1.trans H10.out.2, ?_⟩⟩
                · rw [fstP_succ, ← List.cons_append, ← List.append_assoc]
                  exact H10.out.1
                · rw [← drop_next, ← hm2]
                  refine hv2.rest (min m 512) (by omega) (by rw [hmn]) (by rw [hmn]; omega) (fun hne => ?_)
                  rw [hmn] at hne
                  first
                  | (exfalso; rw [hmn] at *; omega)
                  | rw [hmn]
          · have hkN : k = N := by have := HN.out; omega
            subst hkN
            have hm0 : m = 0 := by omega
            subst hm0
            have hch : fstP q s k = (chunksB q).map (.behind s) := by rw [← fstP_all, HN.out]
            have HCH := Lib.hid hch
            rw [HM.out]
            clear HA1 hch
            go_wp2
            go_ret
            exact ⟨rfl, O1, F1, by rw [← HCH.out]; exact HH1.out, HT1.out⟩
end Go.Proofs.YtggnkpblfmjbcaaGreatDoor
namespace Go.Proofs.YtggnkpblfmjbcaaGreatDoor
open Go.RowKit Go.Bd
theorem wt_mem {h : List Raw} {r : Raw} (hr : r ∈ h) : r.b.length ≤ wtR h := by
  unfold wtR
  induction h with
  | nil => simp at hr
  | cons a l ih =>
    rw [List.map_cons, List.sum_cons]
    rcases List.mem_cons.1 hr with rfl | h1
    · omega
    · have := ih h1; omega
theorem fnd_ok {h : List Raw} (H : Fit h) {k : Nat} {r : Raw} (hr : h[k]? = some r) (h0 : r.k ≠ 0) : fnd (runO (h.take k)) r.n = true := by
  have h1 := H.ok k r hr
  rw [fnd_of (H.take k)]
  cases r with
  | empty n => exact absurd rfl h0
  | behind n b => exact h1
  | gone n => exact h1
theorem Rk.new {w : World} (F : Nat → Prop) (size : Nat) (hF : ∀ k, F k → k < w.heap.size) : Rk (w.alloc (.cells #[.int .i64 (size : Int), .slice none 0 0, .slice none 0 0] 74)) (fun k => k = w.heap.size) F w.heap.size size [] :=
  ⟨_, _, (RDs.new w size).more (fun k hk => hk.elim) (fun k hk e => by have := hF k hk; omega) (fun k hk => by have := hF k hk; simp; omega)⟩
set_option maxRecDepth 100000 in
set_option maxHeartbeats 4000000 in
theorem rcut_rk {w : World} {O F : Nat → Prop} {db size : Nat} {h : List Raw} (H : Rk w O F db size h) (hf : Fit h) (n : Int) (hsz : size ≤ 8388608) :
    Calls Tryz.prog 16 #[.pointer (some ⟨db, 0, none⟩), .int .i64 n] w fun e w' => if n < 0 ∨ (h.length : Int) < n then e = .returned (.tuple #[.pointer none, .int .i64 1]) ∧ w' = w else
      ∃ ndb, e = .returned (.tuple #[.pointer (some ⟨ndb, 0, none⟩), .int .i64 0]) ∧ ∃ O' F', Rk w' O' F' ndb size (h.take n.toNat) ∧ (∀ k, O' k → w.heap.size ≤ k) ∧ (∀ k, F' k → F k ∨ w.heap.size ≤ k) ∧ (∀ k, F k → F' k) ∧ Below w.heap.size w w' := by
  obtain ⟨lv, rv, H1⟩ := H
  obtain ⟨A, c, rfl, hlc⟩ : ∃ A c, rv = .slice A h.length c ∧ h.length ≤ c := by
    rcases H1.rw.form with ⟨h1, h2⟩ | ⟨g, c, h1, h2, _⟩
    · exact ⟨none, 0, by rw [h1, h2]; rfl, by rw [h2]; exact Nat.le_refl _⟩
    · exact ⟨_, _, h1, h2⟩
  have p0 := H1.hold.cell 0
  have p2 := H1.hold.cell 2
  simp at p0 p2
  have hdb := H1.hold.lt
  have hfew := hf.few
  have HH := Lib.hid H1
  have HF := Lib.hid hf
  clear H1 hf
  obtain ⟨L, hL⟩ : ∃ L, h.length = L := ⟨_, rfl⟩
  rw [hL] at p2 hlc hfew ⊢
  have HL := Lib.hid hL
  clear hL
  by_cases hbad : n < 0 ∨ (L : Int) < n
  · simp only [hbad, if_true]
    rcases hbad with hb | hb
    · go_enter Tryz.func16, Tryz.ntmps16
      go_wp2
      go_ret2
      exact ⟨rfl, rfl⟩
    · have hb0 : ¬ n < 0 := by omega
      go_enter Tryz.func16, Tryz.ntmps16
      go_wp2
      go_ret2
      exact ⟨rfl, rfl⟩
  · simp only [hbad, if_false]
    obtain ⟨m, rfl⟩ : ∃ m : Nat, n = m := ⟨n.toNat, by omega⟩
    have hm : m ≤ L := by omega
    have hd1 : decide (L < m) = false := decide_eq_false (by omega)
    have hd2 : decide ((m : Int) < 0) = false := decide_eq_false (by omega)
    simp only [Int.toNat_natCast]
    clear hbad
    go_enter Tryz.func16, Tryz.ntmps16
    go_wp2
    (try simp only [hd1, hd2, Bool.or_false])
    have hN : Rk (w.alloc (.cells #[.int .i64 (size : Int), .slice none 0 0, .slice none 0 0] 74)) (fun k => k = w.heap.size) F w.heap.size size [] := Rk.new F size HH.out.ltF
    have HN := Lib.hid hN
    clear hN hd1 hd2
    go_loopg [7] m (fun q vi wr => ∃ k : Nat, k + q = m ∧ vi = .int .i64 (k : Int) ∧ Hid (∃ O1 F1, Rk wr O1 F1 w.heap.size size (h.take k) ∧ (∀ b, O1 b → w.heap.size ≤ b) ∧ (∀ b, F1 b → F b ∨ w.heap.size ≤ b) ∧ (∀ b, F b → F1 b) ∧ Below w.heap.size w wr))
    case atStart => exact ⟨0, by omega, rfl, Lib.hid ⟨_, _, HN.out, fun b hb => by omega, fun b hb => .inl hb, fun b hb => hb, (Below.refl _ w).alloc (Nat.le_refl _) _⟩⟩
    case round =>
      obtain ⟨k, hk, rfl, HS⟩ := hrel
      obtain ⟨O1, F1, h1, o1, f1, m1, b1⟩ := HS.out
      by_cases hlt : k < m
      · obtain ⟨r, hr⟩ : ∃ r, h[k]? = some r := ⟨_, List.getElem?_eq_getElem (by have := HL.out; omega)⟩
        have HW := HH.out.below b1
        obtain ⟨g, u, rfl, hby, hcs⟩ := HW.rw.at rawC_len hr
        obtain ⟨UA, uc, hu, _⟩ := id hby
        subst hu
        have c0 := hcs 0 _ rfl
        rw [Nat.add_zero] at c0
        have c1 := hcs 1 _ rfl
        have c2 := hcs 2 _ rfl
        have hmem := List.mem_of_getElem? hr
        have hdo := does_rk h1 (HF.out.take k) r _ (hby.chg (Chg.refl wr (fun _ => False)) m1 (fun _ _ h => h)) (fnd_ok HF.out hr) (HF.out.n80 r hmem) (by have := wt_mem hmem; have := HF.out.wt; omega)
        have hts : h.take (k + 1) = h.take k ++ [r] := by rw [List.take_add_one, hr]; rfl
        rw [← hts] at hdo
        have p2' := HW.hold.cell 2
        simp at p2'
        rw [HL.out] at p2'
        have HB := Lib.hid (And.intro b1 (And.intro o1 (And.intro f1 m1)))
        clear hts hcs hby HW h1 o1 f1 m1 HS HN p2 b1
        go_wp2_with (go_at_call 41; refine hdo.mono ?_; clear hdo; rintro e w2 ⟨rfl, O2, F2, h2, t2⟩)
        have HT := Lib.hid (And.intro h2 t2)
        clear h2 t2
        obtain ⟨b1, o1, f1, m1⟩ := HB.out
        have hs1 := b1.size
        have HS : Hid (∃ O1 F1, Rk w2 O1 F1 w.heap.size size (h.take (k + 1)) ∧ (∀ b, O1 b → w.heap.size ≤ b) ∧ (∀ b, F1 b → F b ∨ w.heap.size ≤ b) ∧ (∀ b, F b → F1 b) ∧ Below w.heap.size w w2) := by
          refine Lib.hid ⟨O2, F2, HT.out.1, fun b hb => ?_, fun b hb => ?_, fun b hb => HT.out.2.moF b (m1 b hb), b1.trans (HT.out.2.chg.toBelow hs1 o1)⟩
          · rcases HT.out.2.inO b hb with h3 | h3
            · exact o1 b h3
            · omega
          · rcases HT.out.2.inF b hb with h3 | h3
            · exact f1 b h3
            · exact .inr (by omega)
        clear b1 o1 f1 m1
        go_roundg (gk - 1)
        case measure => omega
        case rel => exact ⟨k + 1, by omega, by go_num, HS⟩
      · obtain rfl : k = m := by omega
        clear HS
        go_wp2
        go_ret2
        exact ⟨_, rfl, O1, F1, h1, o1, f1, m1, b1⟩
end Go.Proofs.YtggnkpblfmjbcaaGreatDoor
