/-
  Walks: a raw write is done, and kept.
-/
import Derived.Test.YtggnkpblfmjbcaaDg
namespace Go.Proofs.Ytggnkpblfmjbcaa
open Go.RowKit Go.Bd
theorem info_fn : (Try.prog.info? 52).map (fun i => (i.zero, i.size, i.bytes)) = some (some .nilFunc, 1, 8) := by kernel_rfl
theorem under_fns : Try.prog.underlying 46 = some (.slice 52) := by kernel_rfl
/-- a raw write that was done is kept -/
theorem DiskAt.kept {w w' : World} {F Ro : Nat → Prop} {db size bm : Nat} {es : List Fe} {hist : List Raw} {hv hv' : Value} {fs : List Value} {r : Raw} {f : Value} (h : DiskAt w F Ro db size es hist bm hv fs (hist ++ [r])) (hr : RawAt w Ro f r)
    (hh : Holds w' db 48 #[.int .i64 (size : Int), .int .i64 (usedB (fsOf es) : Int), .map (some bm), hv']) (hc : Chg w w' (fun k => k = db ∨ hv.ownBlock = some k))
    (ho : w'.ownsRow 0 52 1 hv' (hist.length + 1) (fs ++ [f])) (hb : ∀ k, hv'.ownBlock = some k → (hv.ownBlock = some k ∨ w.heap.size ≤ k) ∧ k < w'.heap.size) :
    DiskAt w' (fun k => F k ∨ (w.heap.size ≤ k ∧ k < w'.heap.size)) Ro db size es (hist ++ [r]) bm hv' (fs ++ [f]) (hist ++ [r]) := by
  have hS : ∀ k, Ro k → ¬ (k = db ∨ hv.ownBlock = some k) := fun k hk h3 => by
    rcases h3 with h3 | h3
    · exact h.off k hk (h3 ▸ h.inDb)
    · exact h.off k hk (h.inHv k h3)
  exact {
    hold := hh
    map := h.map.chg hc (fun h3 => by
      rcases h3 with h3 | h3
      · exact h.offDb.1 h3.symm
      · exact (h.offDb.2.1 _ h3).2 rfl)
    uniq := h.uniq
    names := h.names
    rows := fun a ha => hc.owns (h.rows a ha) (fun k hk h3 => by
      have h4 := h.offDb.2.2 a ha k hk
      rcases h3 with h3 | h3
      · exact h4.1 h3
      · exact h4.2.2 h3)
    apart := h.apart
    row := by rw [List.length_append]; exact ho
    raws := (h.raws.chg hc (fun _ hk => hk) hS).snoc (hr.chg hc (fun _ hk => hk) hS)
    says := h.says
    inDb := .inl h.inDb
    inBm := .inl h.inBm
    inHv := fun k hk => by
      rcases (hb k hk).1 with h2 | h2
      · exact .inl (h.inHv k h2)
      · exact .inr ⟨h2, (hb k hk).2⟩
    inEs := fun a ha k hk => .inl (h.inEs a ha k hk)
    offDb := ⟨h.offDb.1, fun k hk => by
      rcases (hb k hk).1 with h2 | h2
      · exact h.offDb.2.1 k h2
      · have h3 := h.ltF db h.inDb
        have h4 := h.ltF bm h.inBm
        exact ⟨fun e => by omega, fun e => by omega⟩, fun a ha k hk => ⟨(h.offDb.2.2 a ha k hk).1, (h.offDb.2.2 a ha k hk).2.1, fun e => by
      rcases (hb k e).1 with h2 | h2
      · exact (h.offDb.2.2 a ha k hk).2.2 h2
      · have := h.ltF k (h.inEs a ha k hk); omega⟩⟩
    ltF := fun k hk => by
      rcases hk with hk | hk
      · exact Nat.lt_of_lt_of_le (h.ltF k hk) hc.size
      · exact hk.2
    ltR := fun k hk => Nat.lt_of_lt_of_le (h.ltR k hk) hc.size
    off := fun k hk h2 => by
      rcases h2 with h2 | h2
      · exact h.off k hk h2
      · have := h.ltR k hk; omega }
set_option maxRecDepth 100000 in
set_option maxHeartbeats 2000000 in
theorem raw_any {w : World} {F Ro : Nat → Prop} {db size bm : Nat} {es : List Fe} {hist : List Raw} {hv : Value} {fs : List Value} (h : DiskAt w F Ro db size es hist bm hv fs hist) {f : Value} {r : Raw} (hr : RawAt w Ro f r) (he : es.length < 1000000) (hu : usedB (fsOf es) ≤ 1000000000000) (hh : hist.length ≤ 1000000000) :
    Calls Try.prog 19 #[.pointer (some ⟨db, 0, none⟩), f] w fun e w' => (∃ v, e = .returned v) ∧ ∃ es' hv', DiskAt w' (fun k => F k ∨ (w.heap.size ≤ k ∧ k < w'.heap.size)) Ro db size es' (hist ++ [r]) bm hv' (fs ++ [f]) (hist ++ [r]) ∧ Chg w w' F := by
  have HRW := Lib.hid hr
  have HOFF := Lib.hid h.off
  have HLR := Lib.hid h.ltR
  have hd := did_any h hr he hu
  obtain ⟨HA, hcp, rfl⟩ : ∃ A c, hv = .slice A hist.length c := by
    rcases h.row.2 with ⟨h1, h2⟩ | ⟨g, cap, cur, h1, _⟩
    · exact ⟨none, 0, by rw [h1, h2]⟩
    · exact ⟨_, _, h1⟩
  obtain ⟨i0, hi, hz0, hz1, hz2⟩ := info_parts info_fn
  obtain ⟨bs, e, hc⟩ := hd
  cases r with
  | empty n =>
    obtain ⟨b, hb, rfl, hs, hn⟩ := hr
    injection e with e1 e2 e
    clear e1 e2
    subst e
    clear h
    unfold rawFn at hc
    simp only [List.append_toArray, List.cons_append, List.nil_append] at hc
    go_enter Try.func19, Try.ntmps19
    go_wp2_with (first
      | (go_at_call 29; refine hc.mono ?_; rintro e w1 ⟨⟨v0, rfl⟩, es', h1, hc1⟩; have p3 := h1.hold.cell 3; simp at p3; have hlt1 : db < w1.heap.size := h1.hold.lt)
      | (at_builtin; refine wpList_append_lies _ (by rfl) _ _ _ (by rfl) 0 52 i0 _ 1 8 under_fns hi hz0 hz1 hz2 rfl (by decide) (.slice HA hist.length hcp) hist.length fs (by rfl) ((h1.row).alloc _) ⟨w1.heap.size, 0, none⟩ 1 1 [_] (by rfl) rfl (cell_one_new _ _ _) (by simp [Value.oneCell']) (by omega) (by simp only [maxLen]; omega) (by omega) (Nat.zero_le _) (w1.heap.size + 1) (by simp) ?_; rintro g cap w2 ho2 hg2 hl2 hlt2; have hr1 : ¬ some db = Value.ownBlock (.slice HA hist.length hcp) := fun e => (h1.offDb.2.1 _ e.symm).1 rfl; have HH2 := (Chg.grown hg2).holds hr1 (h1.hold.alloc _); have q3 := HH2.cell 3; have qf := HH2.free 3))
    go_end0
    have hb := HRW.out.chg hc1 (fun _ hk => hk) HOFF.out
    have hgd : ¬ g = db := fun e => by
      rcases hl2 with h2 | h2
      · exact hr1 (e ▸ h2.symm)
      · omega
    have hc3 := (((Chg.refl w1 (fun k => k = db ∨ Value.ownBlock (.slice HA hist.length hcp) = some k)).alloc (.cells #[_] 52)).trans (Chg.grown hg2) (fun k _ e => .inr e.symm)).trans (Chg.set w2 ⟨db, 3, none⟩ (.slice (some ⟨g, 0, none⟩) (hist.length + 1) cap)) (fun k _ e => .inl e)
    have hset := Chg.set w2 ⟨db, 3, none⟩ (.slice (some ⟨g, 0, none⟩) (hist.length + 1) cap)
    have hk := h1.kept hb (HH2.set 3 (.slice (some ⟨g, 0, none⟩) (hist.length + 1) cap)) hc3 (hset.owns ho2 (fun k hk e => by injection hk with hk; exact hgd (hk.trans e))) (fun k hk => by
      obtain rfl : g = k := by injection hk
      refine ⟨?_, Nat.lt_of_lt_of_le hlt2 hset.size⟩
      rcases hl2 with h2 | h2
      · exact .inl h2
      · exact .inr (by omega))
    have hs1 := hc1.size
    have hs3 := hc3.size
    refine ⟨⟨_, rfl⟩, es', _, hk.wider (fun k hk => ?_) (fun k hk2 => ?_) (fun k hk2 h3 => ?_), hc1.trans hc3 (fun k hlt hk2 => ?_)⟩
    · rcases hk with (hk | hk) | hk
      · exact .inl hk
      · exact .inr ⟨hk.1, by omega⟩
      · exact .inr ⟨by omega, hk.2⟩
    · rcases hk2 with hk2 | hk2
      · exact hk.ltF k (.inl (.inl hk2))
      · exact hk2.2
    · rcases h3 with h3 | h3
      · exact HOFF.out k hk2 h3
      · have := HLR.out k hk2; omega
    · have hF1 : F k ∨ (w.heap.size ≤ k ∧ k < w1.heap.size) := by
        rcases hk2 with h2 | h2
        · exact h2 ▸ h1.inDb
        · exact h1.inHv k h2
      rcases hF1 with h2 | h2
      · exact h2
      · omega
  | gone n =>
    obtain ⟨b, hb, rfl, hs, hn⟩ := hr
    injection e with e1 e2 e
    clear e1 e2
    subst e
    clear h
    unfold rawFn at hc
    simp only [List.append_toArray, List.cons_append, List.nil_append] at hc
    go_enter Try.func19, Try.ntmps19
    go_wp2_with (first
      | (go_at_call 28; refine hc.mono ?_; rintro e w1 ⟨⟨v0, rfl⟩, es', h1, hc1⟩; have p3 := h1.hold.cell 3; simp at p3; have hlt1 : db < w1.heap.size := h1.hold.lt)
      | (at_builtin; refine wpList_append_lies _ (by rfl) _ _ _ (by rfl) 0 52 i0 _ 1 8 under_fns hi hz0 hz1 hz2 rfl (by decide) (.slice HA hist.length hcp) hist.length fs (by rfl) ((h1.row).alloc _) ⟨w1.heap.size, 0, none⟩ 1 1 [_] (by rfl) rfl (cell_one_new _ _ _) (by simp [Value.oneCell']) (by omega) (by simp only [maxLen]; omega) (by omega) (Nat.zero_le _) (w1.heap.size + 1) (by simp) ?_; rintro g cap w2 ho2 hg2 hl2 hlt2; have hr1 : ¬ some db = Value.ownBlock (.slice HA hist.length hcp) := fun e => (h1.offDb.2.1 _ e.symm).1 rfl; have HH2 := (Chg.grown hg2).holds hr1 (h1.hold.alloc _); have q3 := HH2.cell 3; have qf := HH2.free 3))
    go_end0
    have hb := HRW.out.chg hc1 (fun _ hk => hk) HOFF.out
    have hgd : ¬ g = db := fun e => by
      rcases hl2 with h2 | h2
      · exact hr1 (e ▸ h2.symm)
      · omega
    have hc3 := (((Chg.refl w1 (fun k => k = db ∨ Value.ownBlock (.slice HA hist.length hcp) = some k)).alloc (.cells #[_] 52)).trans (Chg.grown hg2) (fun k _ e => .inr e.symm)).trans (Chg.set w2 ⟨db, 3, none⟩ (.slice (some ⟨g, 0, none⟩) (hist.length + 1) cap)) (fun k _ e => .inl e)
    have hset := Chg.set w2 ⟨db, 3, none⟩ (.slice (some ⟨g, 0, none⟩) (hist.length + 1) cap)
    have hk := h1.kept hb (HH2.set 3 (.slice (some ⟨g, 0, none⟩) (hist.length + 1) cap)) hc3 (hset.owns ho2 (fun k hk e => by injection hk with hk; exact hgd (hk.trans e))) (fun k hk => by
      obtain rfl : g = k := by injection hk
      refine ⟨?_, Nat.lt_of_lt_of_le hlt2 hset.size⟩
      rcases hl2 with h2 | h2
      · exact .inl h2
      · exact .inr (by omega))
    have hs1 := hc1.size
    have hs3 := hc3.size
    refine ⟨⟨_, rfl⟩, es', _, hk.wider (fun k hk => ?_) (fun k hk2 => ?_) (fun k hk2 h3 => ?_), hc1.trans hc3 (fun k hlt hk2 => ?_)⟩
    · rcases hk with (hk | hk) | hk
      · exact .inl hk
      · exact .inr ⟨hk.1, by omega⟩
      · exact .inr ⟨by omega, hk.2⟩
    · rcases hk2 with hk2 | hk2
      · exact hk.ltF k (.inl (.inl hk2))
      · exact hk2.2
    · rcases h3 with h3 | h3
      · exact HOFF.out k hk2 h3
      · have := HLR.out k hk2; omega
    · have hF1 : F k ∨ (w.heap.size ≤ k ∧ k < w1.heap.size) := by
        rcases hk2 with h2 | h2
        · exact h2 ▸ h1.inDb
        · exact h1.inHv k h2
      rcases hF1 with h2 | h2
      · exact h2
      · omega
  | behind n q =>
    obtain ⟨bb, bn, blk, off, cap0, hb1, hb2, hb3, rfl, hq, hs, hn, hqq, hqc⟩ := hr
    clear hq hs hqc
    injection e with e1 e2 e
    clear e1 e2
    subst e
    clear h
    unfold rawFn at hc
    simp only [List.append_toArray, List.cons_append, List.nil_append] at hc
    go_enter Try.func19, Try.ntmps19
    go_wp2_with (first
      | (go_at_call 31; refine hc.mono ?_; rintro e w1 ⟨⟨v0, rfl⟩, es', h1, hc1⟩; have p3 := h1.hold.cell 3; simp at p3; have hlt1 : db < w1.heap.size := h1.hold.lt)
      | (at_builtin; refine wpList_append_lies _ (by rfl) _ _ _ (by rfl) 0 52 i0 _ 1 8 under_fns hi hz0 hz1 hz2 rfl (by decide) (.slice HA hist.length hcp) hist.length fs (by rfl) ((h1.row).alloc _) ⟨w1.heap.size, 0, none⟩ 1 1 [_] (by rfl) rfl (cell_one_new _ _ _) (by simp [Value.oneCell']) (by omega) (by simp only [maxLen]; omega) (by omega) (Nat.zero_le _) (w1.heap.size + 1) (by simp) ?_; rintro g cap w2 ho2 hg2 hl2 hlt2; have hr1 : ¬ some db = Value.ownBlock (.slice HA hist.length hcp) := fun e => (h1.offDb.2.1 _ e.symm).1 rfl; have HH2 := (Chg.grown hg2).holds hr1 (h1.hold.alloc _); have q3 := HH2.cell 3; have qf := HH2.free 3))
    go_end0
    have hb := HRW.out.chg hc1 (fun _ hk => hk) HOFF.out
    have hgd : ¬ g = db := fun e => by
      rcases hl2 with h2 | h2
      · exact hr1 (e ▸ h2.symm)
      · omega
    have hc3 := (((Chg.refl w1 (fun k => k = db ∨ Value.ownBlock (.slice HA hist.length hcp) = some k)).alloc (.cells #[_] 52)).trans (Chg.grown hg2) (fun k _ e => .inr e.symm)).trans (Chg.set w2 ⟨db, 3, none⟩ (.slice (some ⟨g, 0, none⟩) (hist.length + 1) cap)) (fun k _ e => .inl e)
    have hset := Chg.set w2 ⟨db, 3, none⟩ (.slice (some ⟨g, 0, none⟩) (hist.length + 1) cap)
    have hk := h1.kept hb (HH2.set 3 (.slice (some ⟨g, 0, none⟩) (hist.length + 1) cap)) hc3 (hset.owns ho2 (fun k hk e => by injection hk with hk; exact hgd (hk.trans e))) (fun k hk => by
      obtain rfl : g = k := by injection hk
      refine ⟨?_, Nat.lt_of_lt_of_le hlt2 hset.size⟩
      rcases hl2 with h2 | h2
      · exact .inl h2
      · exact .inr (by omega))
    have hs1 := hc1.size
    have hs3 := hc3.size
    refine ⟨⟨_, rfl⟩, es', _, hk.wider (fun k hk => ?_) (fun k hk2 => ?_) (fun k hk2 h3 => ?_), hc1.trans hc3 (fun k hlt hk2 => ?_)⟩
    · rcases hk with (hk | hk) | hk
      · exact .inl hk
      · exact .inr ⟨hk.1, by omega⟩
      · exact .inr ⟨by omega, hk.2⟩
    · rcases hk2 with hk2 | hk2
      · exact hk.ltF k (.inl (.inl hk2))
      · exact hk2.2
    · rcases h3 with h3 | h3
      · exact HOFF.out k hk2 h3
      · have := HLR.out k hk2; omega
    · have hF1 : F k ∨ (w.heap.size ≤ k ∧ k < w1.heap.size) := by
        rcases hk2 with h2 | h2
        · exact h2 ▸ h1.inDb
        · exact h1.inHv k h2
      rcases hF1 with h2 | h2
      · exact h2
      · omega
end Go.Proofs.Ytggnkpblfmjbcaa
