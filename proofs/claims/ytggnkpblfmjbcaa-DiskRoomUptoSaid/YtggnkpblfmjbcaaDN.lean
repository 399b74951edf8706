/-
  Walks: a file is removed; the names of all files.
-/
import Derived.Test.YtggnkpblfmjbcaaDL
import Derived.Test.YtggnkpblfmjbcaaIter
namespace Go.Proofs.Ytggnkpblfmjbcaa
open Go.RowKit Go.Bd Go.Shelf Go.Maps
/-- what a removal answers -/
def removeE (fs : Fs) (s : ByteArray) : Nat := if nameB s then if (getB fs s).isSome then 0 else 5 else 1
/-- the raw writes of a removal -/
def rawsD (fs : Fs) (s : ByteArray) : List Raw := if removeE fs s = 0 then [.gone s] else []
set_option maxRecDepth 100000 in
set_option maxHeartbeats 2000000 in
theorem remove_any {w : World} {F Ro : Nat → Prop} {db size bm : Nat} {es : List Fe} {hist : List Raw} {hv : Value} {fs : List Value} (h : DiskAt w F Ro db size es hist bm hv fs hist) (s : ByteArray) (hs : s.size ≤ 140737488355328) (hh : hist.length + 2 ≤ 900000) :
    Calls Try.prog 8 #[.pointer (some ⟨db, 0, none⟩), .string s] w fun e w' => e = .returned (.int .i64 (removeE (runR hist) s : Int)) ∧
      ∃ F' Ro' es' hv' fs', DiskAt w' F' Ro' db size es' (hist ++ rawsD (runR hist) s) bm hv' fs' (hist ++ rawsD (runR hist) s) ∧ (∀ k, F' k → F k ∨ w.heap.size ≤ k) ∧ (∀ k, Ro' k → Ro k ∨ w.heap.size ≤ k) ∧ Chg w w' F := by
  suffices hS : ∀ R : Ending → World → Prop, (∀ e w', (e = .returned (.int .i64 (removeE (runR hist) s : Int)) ∧
      ∃ F' Ro' es' hv' fs', DiskAt w' F' Ro' db size es' (hist ++ rawsD (runR hist) s) bm hv' fs' (hist ++ rawsD (runR hist) s) ∧ (∀ k, F' k → F k ∨ w.heap.size ≤ k) ∧ (∀ k, Ro' k → Ro k ∨ w.heap.size ≤ k) ∧ Chg w w' F) → R e w') → Calls Try.prog 8 #[.pointer (some ⟨db, 0, none⟩), .string s] w R from hS _ (fun _ _ h => h)
  intro R hR
  have hfl := h.len_le
  have hul := h.used_le
  have ht := there_any db bm _ _ hv w h.hold
  have hnm := named_any s w hs
  have p2 := h.hold.cell 2
  simp at p2
  have hl := h.map.look_ok (s := s) str_key map_under (zero_bytes w) (by simp only [maxLen]; omega)
  obtain ⟨A, c, hval, hlc⟩ := valF_form h.rows s
  have hsome : (findF es s).isSome = (getB (fsOf es) s).isSome := by rw [getB_of]; simp
  rw [hsome, hval] at hl
  rw [← h.says] at hR
  have HW := Lib.hid h
  have HR := Lib.hid hR
  have HFL : Hid (removeE (fsOf es) s ≠ 0 → R (.returned (.int .i64 (removeE (fsOf es) s : Int))) w) := fun hne => HR.out _ _ ⟨rfl, F, Ro, es, hv, fs, by unfold rawsD; rw [if_neg hne, List.append_nil]; exact HW.out, fun _ h => .inl h, fun _ h => .inl h, Chg.refl _ _⟩
  clear h hR hsome hval
  cases hb : nameB s with
  | false =>
    have hre : removeE (fsOf es) s = 1 := by unfold removeE; simp [hb]
    rw [hb] at hnm
    go_enter Try.func8, Try.ntmps8
    go_wp2_with (first
      | (go_at_call 17; refine ht.mono ?_; rintro e w1 ⟨rfl, rfl⟩)
      | (go_at_call 18; refine hnm.mono ?_; rintro e w1 ⟨rfl, rfl⟩))
    have := HFL.out (by rw [hre]; decide)
    rw [hre] at this
    exact this
  | true =>
    rw [hb] at hnm
    cases hg : getB (fsOf es) s with
    | none =>
      have hre : removeE (fsOf es) s = 5 := by unfold removeE; simp [hb, hg]
      rw [hg] at hl
      go_enter Try.func8, Try.ntmps8
      go_wp2_with (first
        | (go_at_call 17; refine ht.mono ?_; rintro e w1 ⟨rfl, rfl⟩)
        | (go_at_call 18; refine hnm.mono ?_; rintro e w1 ⟨rfl, rfl⟩))
      have := HFL.out (by rw [hre]; decide)
      rw [hre] at this
      exact this
    | some o =>
      have hre : removeE (fsOf es) s = 0 := by unfold removeE; simp [hb, hg]
      rw [hg] at hl
      simp only [Option.getD_some, Option.isSome_some] at hl
      go_enter Try.func8, Try.ntmps8
      go_wp2_with (first
        | (go_at_call 17; refine ht.mono ?_; rintro e w1 ⟨rfl, rfl⟩)
        | (go_at_call 18; refine hnm.mono ?_; rintro e w1 ⟨rfl, rfl⟩)
        | (go_at_call 20; refine (gone_any s _ (nameB_le hb)).mono ?_; rintro e w2 ⟨f2, rfl, hra, hbl⟩)
        | fail)
      have hC2 : Chg _ w2 (fun _ => False) := Chg.below hbl (fun _ => False)
      have hD2 := HW.out.chg (F' := F) (Ro' := Ro) hC2 (fun _ _ h => h) (fun _ _ h => h)
      have hsz := hC2.size
      have hD2' := hD2.ro (Ro' := fun k => Ro k ∨ (w1.heap.size ≤ k ∧ k < w2.heap.size)) (fun _ h => .inl h) (fun k h => by
        rcases h with h | h
        · exact hD2.ltR k h
        · exact h.2) (fun k h hf => by
        rcases h with h | h
        · exact hD2.off k h hf
        · have := HW.out.ltF k hf; omega)
      have hra2 := raw_any hD2' (hra.chg (Ro' := fun k => Ro k ∨ (w1.heap.size ≤ k ∧ k < w2.heap.size)) (Chg.refl w2 (fun _ => False)) (fun k h => .inr h) (fun _ _ h => h)) (by omega) (by omega) (by omega)
      have HC2 := Lib.hid hC2
      clear hD2 hD2' hra hbl hC2
      go_wp2_with (go_at_call 19; refine hra2.mono ?_; rintro e w3 ⟨⟨v3, rfl⟩, es3, hv3, hD3, hcr⟩)
      have hszr := hcr.size
      have := HR.out (.returned (.int .i64 (removeE (fsOf es) s : Int))) w3 ⟨rfl, _, _, es3, hv3, _, by unfold rawsD; rw [if_pos hre]; exact hD3, fun k hk => by
        rcases hk with hk | hk
        · exact .inl hk
        · exact .inr (by omega), fun k hk => by
        rcases hk with hk | hk
        · exact .inl hk
        · exact .inr hk.1, (HC2.out.mono (T := F) (fun _ _ h => h.elim)).trans hcr (fun _ _ h => h)⟩
      rw [hre] at this
      exact this
/-- all names, rising -/
def namesB (fs : Fs) : List (List UInt8) := (fs.map (fun p => p.1.data.toList)).mergeSort leB
theorem FsMap.perm {w : World} {P : Program} {K bm : Nat} {es : List Fe} (hu : Uniq es) (hk : P.underlying K = some .string) {D : DataW Value} (hown : w.ownsMap P K heldR bm es.length D) (hh : ∀ s : ByteArray, Maps.has D (nameL s) = (findF es s).isSome) : (es.map (fun e => e.name.data.toList)).Perm (strKeys D) := by
  refine Collected.perm (left := fun _ => false) ⟨?_, fun x => ?_⟩ hown (string_keyed hk) hk (fun _ => rfl)
  · rw [List.nodup_iff_pairwise_ne, List.pairwise_map]
    refine hu.imp (fun {a b} hne e => hne ?_)
    cases ha : a.name with
    | mk da =>
      cases hb : b.name with
      | mk db =>
        rw [ha, hb] at e
        simp only at e
        rw [Array.toList_inj.1 e]
  · have h1 := hh ⟨⟨x⟩⟩
    unfold nameL at h1
    simp only at h1
    rw [h1]
    simp only [and_true]
    rw [List.mem_map]
    constructor
    · rintro ⟨e, he, rfl⟩
      exact List.find?_isSome.2 ⟨e, he, by simp⟩
    · intro hs
      obtain ⟨e, he, hp⟩ := List.find?_isSome.1 hs
      have hn : e.name = ⟨⟨x⟩⟩ := by simpa using hp
      exact ⟨e, he, by rw [hn]⟩
set_option maxRecDepth 100000 in
set_option maxHeartbeats 2000000 in
theorem names_any {w : World} {F Ro : Nat → Prop} {db size bm : Nat} {es : List Fe} {hist : List Raw} {hv : Value} {fs : List Value} (h : DiskAt w F Ro db size es hist bm hv fs hist) (hh : hist.length ≤ 900000) :
    Calls Try.prog 16 #[.pointer (some ⟨db, 0, none⟩)] w fun e w' => ∃ v, e = .returned v ∧ w'.ownsRow w.heap.size 9 1 v (namesB (runR hist)).length ((namesB (runR hist)).map Go.Proofs.encStr) ∧ Below w.heap.size w w' := by
  have hfl := h.len_le
  have ht := there_any db bm _ _ hv w h.hold
  have p2 := h.hold.cell 2
  simp at p2
  obtain ⟨D, hown, hsz, hhas, _⟩ := h.map
  have hpm := FsMap.perm h.uniq str_key hown hhas
  have hsrt := Try.slices_Sorted_keys_26_27 bm es.length D heldR w hown (by simp only [maxLen]; omega) (by omega)
  have hky := Try.maps_Keys_27 (some bm) w
  have hns : ∀ ss : List (List UInt8), ss.Perm (strKeys D) → ss.mergeSort leB = namesB (runR hist) := fun ss hp => by
    unfold namesB
    refine mergeSort_of_perm ?_
    rw [← h.says]
    unfold fsOf
    rw [List.map_map]
    exact hp.trans hpm.symm
  have HNS := Lib.hid hns
  clear h hns hpm hhas hown
  go_enter Try.func16, Try.ntmps16
  go_wp2_with (first
    | (go_at_call 17; refine ht.mono ?_; rintro e w1 ⟨rfl, rfl⟩)
    | (go_at_call 27; refine (callsIn_wide.1 hky).mono ?_; rintro e w1 ⟨rfl, rfl⟩)
    | (go_at_call 26; refine (callsIn_wide.1 hsrt).mono ?_; rintro e w2 ⟨v, ss, rfl, hp, hrow, hnil, hbl⟩))
  go_ret
  have hn := HNS.out ss hp
  have hlen : ss.length = (namesB (runR hist)).length := by rw [← hn, List.length_mergeSort]
  refine ⟨v, rfl, ?_, ?_⟩
  · rw [← hlen, ← hn]
    exact own_mono hrow (by simp)
  · exact (((Below.refl _ _).alloc (Nat.le_refl _) _).trans (hbl.mono (by simp)))
end Go.Proofs.Ytggnkpblfmjbcaa
