/-
  Walks: a raw write is done; it is kept.
-/
import Derived.Test.YtggnkpblfmjbcaaDe
namespace Go.Proofs.Ytggnkpblfmjbcaa
open Go.RowKit Go.Bd
/-- a disk whose files were changed, and its map, and its used -/
theorem DiskAt.put {w w' : World} {F Ro : Nat → Prop} {db size bm : Nat} {es : List Fe} {hist rs : List Raw} {hv : Value} {fs : List Value} (h : DiskAt w F Ro db size es hist bm hv fs rs) {e : Fe} {r : Raw} (hn : e.name.size ≤ 80)
    (hh : Holds w' db 48 #[.int .i64 (size : Int), .int .i64 (usedB (setB (fsOf es) e.name e.c) : Int), .map (some bm), hv]) (hm : FsMap w' Try.prog 9 bm (putF es e)) (hr : w'.ownsRow 0 5 1 e.v e.c.length (u8L e.c))
    (hb : ∀ k, e.v.ownBlock = some k → ((valF es e.name).ownBlock = some k ∨ w.heap.size ≤ k) ∧ k < w'.heap.size) (hc : Chg w w' (fun k => k = db ∨ k = bm ∨ (valF es e.name).ownBlock = some k)) (hs : r.app (fsOf es) = setB (fsOf es) e.name e.c) :
    DiskAt w' (fun k => F k ∨ (w.heap.size ≤ k ∧ k < w'.heap.size)) Ro db size (putF es e) hist bm hv fs (rs ++ [r]) := by
  have hvF : ∀ k, (valF es e.name).ownBlock = some k → F k := valF_off h.inEs e.name
  have hvO := valF_off (Q := fun k => ¬ k = db ∧ ¬ k = bm ∧ hv.ownBlock ≠ some k) h.offDb.2.2 e.name
  have hdel : ∀ a ∈ delF es e.name, ∀ k, a.v.ownBlock = some k → ¬ (valF es e.name).ownBlock = some k := by
    intro a ha k hk
    unfold valF
    cases hf : findF es e.name with
    | none => intro h; cases h
    | some x =>
      have hx : x ∈ es := List.mem_of_find?_eq_some hf
      have hxn := findF_name hf
      have ha' := List.mem_filter.1 ha
      have hne : a.name ≠ e.name := by simpa using ha'.2
      obtain ⟨i, hi, rfl⟩ := List.mem_iff_getElem.1 hx
      obtain ⟨j, hj, rfl⟩ := List.mem_iff_getElem.1 ha'.1
      have hij : i ≠ j := fun e => by subst e; exact hne hxn
      have hp := List.pairwise_iff_getElem.1 h.apart
      intro h2
      rcases Nat.lt_or_ge i j with hlt | hge
      · exact hp i j hi hj hlt k h2 hk
      · exact hp j i hj hi (by omega) k hk h2
  have hmem : ∀ a ∈ putF es e, a ∈ delF es e.name ∨ a = e := fun a ha => by
    rcases List.mem_append.1 ha with h | h
    · exact .inl h
    · exact .inr (List.mem_singleton.1 h)
  have hin : ∀ a ∈ delF es e.name, a ∈ es := fun a ha => (List.mem_filter.1 ha).1
  have hlow : ∀ a ∈ es, ∀ k, a.v.ownBlock = some k → k < w.heap.size := fun a ha k hk => h.ltF k (h.inEs a ha k hk)
  have hnew : ∀ k, e.v.ownBlock = some k → ¬ k = db ∧ ¬ k = bm ∧ hv.ownBlock ≠ some k := fun k hk => by
    rcases (hb k hk).1 with h2 | h2
    · exact hvO k h2
    · refine ⟨fun e => ?_, fun e => ?_, fun e => ?_⟩
      · have := h.ltF db h.inDb; omega
      · have := h.ltF bm h.inBm; omega
      · have := h.ltF k (h.inHv k e); omega
  exact {
    hold := by rw [fsOf_put]; exact hh
    map := hm
    uniq := h.uniq.put e
    names := fun a ha => by
      rcases hmem a ha with h2 | rfl
      · exact h.names a (hin a h2)
      · exact hn
    rows := fun a ha => by
      rcases hmem a ha with h2 | rfl
      · refine hc.owns (h.rows a (hin a h2)) (fun k hk h3 => ?_)
        have h4 := h.offDb.2.2 a (hin a h2) k hk
        rcases h3 with h3 | h3 | h3
        · exact h4.1 h3
        · exact h4.2.1 h3
        · exact hdel a h2 k hk h3
      · exact hr
    apart := by
      unfold Apart putF
      rw [List.pairwise_append]
      refine ⟨List.Pairwise.filter _ h.apart, List.pairwise_singleton _ _, fun a ha b hb2 k hk hk2 => ?_⟩
      rw [List.mem_singleton] at hb2
      subst hb2
      rcases (hb k hk2).1 with h2 | h2
      · exact hdel a ha k hk h2
      · have := hlow a (hin a ha) k hk; omega
    row := hc.owns h.row (fun k hk h3 => by
      have h4 := h.offDb.2.1 k hk
      rcases h3 with h3 | h3 | h3
      · exact h4.1 h3
      · exact h4.2 h3
      · exact (hvO k h3).2.2 hk)
    raws := h.raws.chg hc (fun _ hk => hk) (fun k hk h3 => by
      rcases h3 with h3 | h3 | h3
      · exact h.off k hk (h3 ▸ h.inDb)
      · exact h.off k hk (h3 ▸ h.inBm)
      · exact h.off k hk (hvF k h3))
    says := by rw [runR_snoc, fsOf_put, ← h.says]; exact hs.symm
    inDb := .inl h.inDb
    inBm := .inl h.inBm
    inHv := fun k hk => .inl (h.inHv k hk)
    inEs := fun a ha k hk => by
      rcases hmem a ha with h2 | rfl
      · exact .inl (h.inEs a (hin a h2) k hk)
      · rcases (hb k hk).1 with h2 | h2
        · exact .inl (hvF k h2)
        · exact .inr ⟨h2, (hb k hk).2⟩
    offDb := ⟨h.offDb.1, h.offDb.2.1, fun a ha k hk => by
      rcases hmem a ha with h2 | rfl
      · exact h.offDb.2.2 a (hin a h2) k hk
      · exact hnew k hk⟩
    ltF := fun k hk => by
      rcases hk with hk | hk
      · exact Nat.lt_of_lt_of_le (h.ltF k hk) hc.size
      · exact hk.2
    ltR := fun k hk => Nat.lt_of_lt_of_le (h.ltR k hk) hc.size
    off := fun k hk h2 => by
      rcases h2 with h2 | h2
      · exact h.off k hk h2
      · have := h.ltR k hk; omega }
/-- a disk from which a file was removed -/
theorem DiskAt.del {w w' : World} {F Ro : Nat → Prop} {db size bm : Nat} {es : List Fe} {hist rs : List Raw} {hv : Value} {fs : List Value} (h : DiskAt w F Ro db size es hist bm hv fs rs) {s : ByteArray}
    (hh : Holds w' db 48 #[.int .i64 (size : Int), .int .i64 (usedB (delB (fsOf es) s) : Int), .map (some bm), hv]) (hm : FsMap w' Try.prog 9 bm (delF es s))
    (hc : Chg w w' (fun k => k = db ∨ k = bm)) : DiskAt w' F Ro db size (delF es s) hist bm hv fs (rs ++ [.gone s]) := by
  have hin : ∀ a ∈ delF es s, a ∈ es := fun a ha => (List.mem_filter.1 ha).1
  exact {
    hold := by rw [fsOf_del]; exact hh
    map := hm
    uniq := h.uniq.del s
    names := fun a ha => h.names a (hin a ha)
    rows := fun a ha => hc.owns (h.rows a (hin a ha)) (fun k hk h3 => by
      have h4 := h.offDb.2.2 a (hin a ha) k hk
      rcases h3 with h3 | h3
      · exact h4.1 h3
      · exact h4.2.1 h3)
    apart := List.Pairwise.filter _ h.apart
    row := hc.owns h.row (fun k hk h3 => by
      have h4 := h.offDb.2.1 k hk
      rcases h3 with h3 | h3
      · exact h4.1 h3
      · exact h4.2 h3)
    raws := h.raws.chg hc (fun _ hk => hk) (fun k hk h3 => by
      rcases h3 with h3 | h3
      · exact h.off k hk (h3 ▸ h.inDb)
      · exact h.off k hk (h3 ▸ h.inBm))
    says := by rw [runR_snoc, fsOf_del, ← h.says]; rfl
    inDb := h.inDb
    inBm := h.inBm
    inHv := h.inHv
    inEs := fun a ha => h.inEs a (hin a ha)
    offDb := ⟨h.offDb.1, h.offDb.2.1, fun a ha => h.offDb.2.2 a (hin a ha)⟩
    ltF := fun k hk => Nat.lt_of_lt_of_le (h.ltF k hk) hc.size
    ltR := fun k hk => Nat.lt_of_lt_of_le (h.ltR k hk) hc.size
    off := h.off }
theorem DiskAt.wider {w : World} {F F' Ro : Nat → Prop} {db size bm : Nat} {es : List Fe} {hist rs : List Raw} {hv : Value} {fs : List Value} (h : DiskAt w F Ro db size es hist bm hv fs rs) (hF : ∀ k, F k → F' k) (hl : ∀ k, F' k → k < w.heap.size) (hR : ∀ k, Ro k → ¬ F' k) : DiskAt w F' Ro db size es hist bm hv fs rs :=
  { h with inDb := hF _ h.inDb, inBm := hF _ h.inBm, inHv := fun k hk => hF _ (h.inHv k hk), inEs := fun e he k hk => hF _ (h.inEs e he k hk), ltF := hl, off := hR }
/-- the function of a raw write, and what it has captured -/
def rawFn : Raw → Nat
  | .empty _ => 29
  | .behind _ _ => 31
  | .gone _ => 28
/-- a raw write is done -/
theorem did_any {w : World} {F Ro : Nat → Prop} {db size bm : Nat} {es : List Fe} {hist rs : List Raw} {hv : Value} {fs : List Value} (h : DiskAt w F Ro db size es hist bm hv fs rs) {f : Value} {r : Raw} (hr : RawAt w Ro f r) (he : es.length < 1000000) (hu : usedB (fsOf es) ≤ 1000000000000) :
    ∃ bs, f = .func (.func (rawFn r)) #[] bs ∧ Calls Try.prog (rawFn r) (#[.pointer (some ⟨db, 0, none⟩)] ++ bs) w fun e w' => (∃ v, e = .returned v) ∧ ∃ es', DiskAt w' (fun k => F k ∨ (w.heap.size ≤ k ∧ k < w'.heap.size)) Ro db size es' hist bm hv fs (rs ++ [r]) ∧ Chg w w' F := by
  have hU : UniqB (fsOf es) := by rw [h.says]; exact uniq_runR _
  have hF2 : ∀ k, (k = db ∨ k = bm) → F k := fun k hk => by
    rcases hk with rfl | rfl
    · exact h.inDb
    · exact h.inBm
  cases r with
  | empty n =>
    obtain ⟨b, hb, rfl, hs, hn⟩ := hr
    refine ⟨_, rfl, (empty1_any h hb hs hn he hu).mono ?_⟩
    rintro e w' ⟨hv', hh, hm, hc⟩
    have e1 := used_set hU n []
    refine ⟨hv', _, h.put (e := ⟨n, .slice none 0 0, []⟩) (r := .empty n) hn ?_ hm (World.ownsRow_nil _ _ _ _) (fun k hk => by cases hk) (hc.mono (fun k _ hk => by rcases hk with hk | hk; exact .inl hk; exact .inr (.inl hk))) rfl, hc.mono (fun k _ hk => hF2 k hk)⟩
    have e2 : usedB (setB (fsOf es) n []) = usedB (fsOf es) - ((getB (fsOf es) n).getD []).length := by simp at e1; omega
    show Holds w' db _ #[_, .int .i64 (usedB (setB (fsOf es) n []) : Int), _, _]
    rw [e2]
    exact hh
  | gone n =>
    obtain ⟨b, hb, rfl, hs, hn⟩ := hr
    refine ⟨_, rfl, (gone1_any h hb hs hn he hu).mono ?_⟩
    rintro e w' ⟨hv', hh, hm, hc⟩
    have e1 := used_del hU n
    have e2 : usedB (delB (fsOf es) n) = usedB (fsOf es) - ((getB (fsOf es) n).getD []).length := by omega
    have h2 := h.del (s := n) (w' := w') (by rw [e2]; exact hh) hm hc
    refine ⟨hv', _, h2.wider (fun k hk => .inl hk) (fun k hk => ?_) (fun k hk h3 => ?_), hc.mono (fun k _ hk => hF2 k hk)⟩
    · rcases hk with hk | hk
      · exact h2.ltF k hk
      · exact hk.2
    · rcases h3 with h3 | h3
      · exact h.off k hk h3
      · have := h.ltR k hk; omega
  | behind n q =>
    obtain ⟨bb, bn, blk, off, cap, hb1, hb2, hb3, rfl, hq, hs, hn, ⟨hq1, hq2⟩, hqc⟩ := hr
    refine ⟨_, rfl, (behind1_any h hb1 hb2 hb3 hq hs hn hq1 hq2 hqc he hu).mono ?_⟩
    rintro e w' ⟨hv', v', hh, hm, ho, hb, hc⟩
    have e1 := used_set hU n ((getB (fsOf es) n).getD [] ++ q)
    have e2 : usedB (setB (fsOf es) n ((getB (fsOf es) n).getD [] ++ q)) = usedB (fsOf es) + q.length := by rw [List.length_append] at e1; omega
    refine ⟨hv', _, h.put (e := ⟨n, v', (getB (fsOf es) n).getD [] ++ q⟩) (r := .behind n q) hn ?_ hm ho hb hc rfl, hc.mono (fun k _ hk => ?_)⟩
    · show Holds w' db _ #[_, .int .i64 (usedB (setB (fsOf es) n ((getB (fsOf es) n).getD [] ++ q)) : Int), _, _]
      rw [e2]
      exact hh
    · rcases hk with rfl | rfl | hk
      · exact h.inDb
      · exact h.inBm
      · exact valF_off h.inEs n k hk
end Go.Proofs.Ytggnkpblfmjbcaa
