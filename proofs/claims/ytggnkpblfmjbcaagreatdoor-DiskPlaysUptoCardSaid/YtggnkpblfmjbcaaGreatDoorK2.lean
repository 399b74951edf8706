/-
  What the chapter's laws share, part 2: plain facts, memory, and walks of functions. Its conditions: those that each theorem names.
-/
import Derived.Test.YtggnkpblfmjbcaaGreatDoorIter
import Derived.Sort.KeysCollected
import Derived.Sort.Walk0
import Derived.Laws.AppendOwnNone
import Derived.Deep.AppendLies
import Derived.Below
import Derived.WalkKit
import Derived.Laws.Cover1
import Derived.Laws.OwnMore
import Derived.Test.YtggnkpblfmjbcaaGreatDoorK1
set_option linter.unusedSimpArgs false
set_option linter.unusedVariables false
namespace Go.Proofs.YtggnkpblfmjbcaaGreatDoor
open Go.RowKit Go.Bd Go.Shelf Go.Maps
def removeE (fs : Fs) (s : ByteArray) : Nat := if nameB s then if (getB fs s).isSome then 0 else 5 else 1
def rawsD (fs : Fs) (s : ByteArray) : List Raw := if removeE fs s = 0 then [.gone s] else []
set_option maxRecDepth 100000 in
set_option maxHeartbeats 2000000 in
theorem remove_any {w : World} {F Ro : Nat → Prop} {db size bm : Nat} {es : List Fe} {hist : List Raw} {hv : Value} {fs : List Value} (h : DiskAt w F Ro db size es hist bm hv fs hist) (s : ByteArray) (hs : s.size ≤ 140737488355328) (hh : hist.length + 2 ≤ 900000) :
    Calls Tryz.prog 13 #[.pointer (some ⟨db, 0, none⟩), .string s] w fun e w' => e = .returned (.int .i64 (removeE (runR hist) s : Int)) ∧
      ∃ F' Ro' es' hv' fs', DiskAt w' F' Ro' db size es' (hist ++ rawsD (runR hist) s) bm hv' fs' (hist ++ rawsD (runR hist) s) ∧ (∀ k, F' k → F k ∨ w.heap.size ≤ k) ∧ (∀ k, Ro' k → Ro k ∨ w.heap.size ≤ k) ∧ Chg w w' F := by
  suffices hS : ∀ R : Ending → World → Prop, (∀ e w', (e = .returned (.int .i64 (removeE (runR hist) s : Int)) ∧
      ∃ F' Ro' es' hv' fs', DiskAt w' F' Ro' db size es' (hist ++ rawsD (runR hist) s) bm hv' fs' (hist ++ rawsD (runR hist) s) ∧ (∀ k, F' k → F k ∨ w.heap.size ≤ k) ∧ (∀ k, Ro' k → Ro k ∨ w.heap.size ≤ k) ∧ Chg w w' F) → R e w') → Calls Tryz.prog 13 #[.pointer (some ⟨db, 0, none⟩), .string s] w R from hS _ (fun _ _ h => h)
  intro R hR
  have hfl := h.len_le
  have hul := h.used_le
  have ht := there_any db bm _ _ hv w h.hold
  have hnm := named_any s w hs
  have p2 := h.hold.cell 2
  simp at p2
  have hl := h.map.look_ok (s := s) str_key map_under (zero_bytes w) (by simp only [maxLen]; omega)
  obtain ⟨A, c, hval, hlc⟩ := valF_form h.rows s
  have hsome : (findF es s).isSome = (getB (fsOf es) s).isSome := by rw [getB_of]; simp
  rw [hsome, hval] at hl
  rw [← h.says] at hR
  have HW := Lib.hid h
  have HR := Lib.hid hR
  have HFL : Hid (removeE (fsOf es) s ≠ 0 → R (.returned (.int .i64 (removeE (fsOf es) s : Int))) w) := fun hne => HR.out _ _ ⟨rfl, F, Ro, es, hv, fs, by unfold rawsD; rw [if_neg hne, List.append_nil]; exact HW.out, fun _ h => .inl h, fun _ h => .inl h, Chg.refl _ _⟩
  clear h hR hsome hval
  cases hb : nameB s with
  | false =>
    have hre : removeE (fsOf es) s = 1 := by unfold removeE; simp [hb]
    rw [hb] at hnm
    go_enter Tryz.func13, Tryz.ntmps13
    go_wp2_with (first
      | (go_at_call 29; refine ht.mono ?_; rintro e w1 ⟨rfl, rfl⟩)
      | (go_at_call 30; refine hnm.mono ?_; rintro e w1 ⟨rfl, rfl⟩))
    have := HFL.out (by rw [hre]; decide)
    rw [hre] at this
    exact this
  | true =>
    rw [hb] at hnm
    cases hg : getB (fsOf es) s with
    | none =>
      have hre : removeE (fsOf es) s = 5 := by unfold removeE; simp [hb, hg]
      rw [hg] at hl
      go_enter Tryz.func13, Tryz.ntmps13
      go_wp2_with (first
        | (go_at_call 29; refine ht.mono ?_; rintro e w1 ⟨rfl, rfl⟩)
        | (go_at_call 30; refine hnm.mono ?_; rintro e w1 ⟨rfl, rfl⟩))
      have := HFL.out (by rw [hre]; decide)
      rw [hre] at this
      exact this
    | some o =>
      have hre : removeE (fsOf es) s = 0 := by unfold removeE; simp [hb, hg]
      rw [hg] at hl
      simp only [Option.getD_some, Option.isSome_some] at hl
      go_enter Tryz.func13, Tryz.ntmps13
      go_wp2_with (first
        | (go_at_call 29; refine ht.mono ?_; rintro e w1 ⟨rfl, rfl⟩)
        | (go_at_call 30; refine hnm.mono ?_; rintro e w1 ⟨rfl, rfl⟩)
        | (go_at_call 38; refine (gone_any s _ (nameB_le hb)).mono ?_; rintro e w2 ⟨f2, rfl, hra, hbl⟩)
        | fail)
      have hC2 : Chg _ w2 (fun _ => False) := Chg.below hbl (fun _ => False)
      have hD2 := HW.out.chg (F' := F) (Ro' := Ro) hC2 (fun _ _ h => h) (fun _ _ h => h)
      have hsz := hC2.size
      have hD2' := hD2.ro (Ro' := fun k => Ro k ∨ (w1.heap.size ≤ k ∧ k < w2.heap.size)) (fun _ h => .inl h) (fun k h => by
        rcases h with h | h
        · exact hD2.ltR k h
        · exact h.2) (fun k h hf => by
        rcases h with h | h
        · exact hD2.off k h hf
        · have := HW.out.ltF k hf; omega)
      have hra2 := raw_any hD2' (hra.chg (Ro' := fun k => Ro k ∨ (w1.heap.size ≤ k ∧ k < w2.heap.size)) (Chg.refl w2 (fun _ => False)) (fun k h => .inr h) (fun _ _ h => h)) (by omega) (by omega) (by omega)
      have HC2 := Lib.hid hC2
      clear hD2 hD2' hra hbl hC2
      go_wp2_with (go_at_call 31; refine hra2.mono ?_; rintro e w3 ⟨⟨v3, rfl⟩, es3, hv3, hD3, hcr⟩)
      have hszr := hcr.size
      have := HR.out (.returned (.int .i64 (removeE (fsOf es) s : Int))) w3 ⟨rfl, _, _, es3, hv3, _, by unfold rawsD; rw [if_pos hre]; exact hD3, fun k hk => by
        rcases hk with hk | hk
        · exact .inl hk
        · exact .inr (by omega), fun k hk => by
        rcases hk with hk | hk
        · exact .inl hk
        · exact .inr hk.1, (HC2.out.mono (T := F) (fun _ _ h => h.elim)).trans hcr (fun _ _ h => h)⟩
      rw [hre] at this
      exact this
def namesB (fs : Fs) : List (List UInt8) := (fs.map (fun p => p.1.data.toList)).mergeSort leB
theorem FsMap.perm {w : World} {P : Program} {K bm : Nat} {es : List Fe} (hu : Uniq es) (hk : P.underlying K = some .string) {D : DataW Value} (hown : w.ownsMap P K heldR bm es.length D) (hh : ∀ s : ByteArray, Maps.has D (nameL s) = (findF es s).isSome) : (es.map (fun e => e.name.data.toList)).Perm (strKeys D) := by
  refine Collected.perm (left := fun _ => false) ⟨?_, fun x => ?_⟩ hown (string_keyed hk) hk (fun _ => rfl)
  · rw [List.nodup_iff_pairwise_ne, List.pairwise_map]
    refine hu.imp (fun {a b} hne e => hne ?_)
    cases ha : a.name with
    | mk da =>
      cases hb : b.name with
      | mk db =>
        rw [ha, hb] at e
        simp only at e
        rw [Array.toList_inj.1 e]
  · have h1 := hh ⟨⟨x⟩⟩
    unfold nameL at h1
    simp only at h1
    rw [h1]
    simp only [and_true]
    rw [List.mem_map]
    constructor
    · rintro ⟨e, he, rfl⟩
      exact List.find?_isSome.2 ⟨e, he, by simp⟩
    · intro hs
      obtain ⟨e, he, hp⟩ := List.find?_isSome.1 hs
      have hn : e.name = ⟨⟨x⟩⟩ := by simpa using hp
      exact ⟨e, he, by rw [hn]⟩
set_option maxRecDepth 100000 in
set_option maxHeartbeats 2000000 in
theorem names_any {w : World} {F Ro : Nat → Prop} {db size bm : Nat} {es : List Fe} {hist : List Raw} {hv : Value} {fs : List Value} (h : DiskAt w F Ro db size es hist bm hv fs hist) (hh : hist.length ≤ 900000) :
    Calls Tryz.prog 11 #[.pointer (some ⟨db, 0, none⟩)] w fun e w' => ∃ v, e = .returned v ∧ w'.ownsRow w.heap.size 9 1 v (namesB (runR hist)).length ((namesB (runR hist)).map Go.Proofs.encStr) ∧ Below w.heap.size w w' := by
  have hfl := h.len_le
  have ht := there_any db bm _ _ hv w h.hold
  have p2 := h.hold.cell 2
  simp at p2
  obtain ⟨D, hown, hsz, hhas, _⟩ := h.map
  have hpm := FsMap.perm h.uniq str_key hown hhas
  have hsrt := Tryz.slices_Sorted_keys_36_37 bm es.length D heldR w hown (by simp only [maxLen]; omega) (by omega)
  have hky := Tryz.maps_Keys_37 (some bm) w
  have hns : ∀ ss : List (List UInt8), ss.Perm (strKeys D) → ss.mergeSort leB = namesB (runR hist) := fun ss hp => by
    unfold namesB
    refine mergeSort_of_perm ?_
    rw [← h.says]
    unfold fsOf
    rw [List.map_map]
    exact hp.trans hpm.symm
  have HNS := Lib.hid hns
  clear h hns hpm hhas hown
  go_enter Tryz.func11, Tryz.ntmps11
  go_wp2_with (first
    | (go_at_call 29; refine ht.mono ?_; rintro e w1 ⟨rfl, rfl⟩)
    | (go_at_call 37; refine (callsIn_wide.1 hky).mono ?_; rintro e w1 ⟨rfl, rfl⟩)
    | (go_at_call 36; refine (callsIn_wide.1 hsrt).mono ?_; rintro e w2 ⟨v, ss, rfl, hp, hrow, hnil, hbl⟩))
  go_ret
  have hn := HNS.out ss hp
  have hlen : ss.length = (namesB (runR hist)).length := by rw [← hn, List.length_mergeSort]
  refine ⟨v, rfl, ?_, ?_⟩
  · rw [← hlen, ← hn]
    exact own_mono hrow (by simp)
  · exact (((Below.refl _ _).alloc (Nat.le_refl _) _).trans (hbl.mono (by simp)))
end Go.Proofs.YtggnkpblfmjbcaaGreatDoor
namespace Go.Proofs.YtggnkpblfmjbcaaGreatDoor
open Go.RowKit Go.Bd Go.Shelf Go.Maps
set_option maxRecDepth 100000 in
set_option maxHeartbeats 2000000 in
theorem cut_any {w : World} {F Ro : Nat → Prop} {db size bm : Nat} {es : List Fe} {hist : List Raw} {hv : Value} {fs : List Value} (h : DiskAt w F Ro db size es hist bm hv fs hist) (n : Int) (hh : hist.length + 2 ≤ 900000) (hsz : size ≤ 8388608) :
    Calls Tryz.prog 15 #[.pointer (some ⟨db, 0, none⟩), .int .i64 n] w fun e w' => if n < 0 ∨ (hist.length : Int) < n then e = .returned (.tuple #[.pointer none, .int .i64 1]) ∧ w' = w else
      ∃ ndb, e = .returned (.tuple #[.pointer (some ⟨ndb, 0, none⟩), .int .i64 0]) ∧ ∃ F' bm' es' hv' fs', DiskAt w' F' Ro ndb size es' (hist.take n.toNat) bm' hv' fs' (hist.take n.toNat) ∧ (∀ k, F' k → w.heap.size ≤ k) ∧ Below w.heap.size w w' := by
  have ht := there_any db bm _ _ hv w h.hold
  have p0 := h.hold.cell 0
  have p3 := h.hold.cell 3
  simp at p0 p3
  have hrow := h.row
  obtain ⟨A, c, rfl, hlc⟩ : ∃ A c, hv = .slice A hist.length c ∧ hist.length ≤ c := by
    rcases h.row.2 with ⟨h1, h2⟩ | ⟨g, cap, cur, h1, _, _, h3, _⟩
    · exact ⟨none, 0, by rw [h1, h2], by omega⟩
    · exact ⟨_, _, h1, h3⟩
  have HW := Lib.hid h
  by_cases hbad : n < 0 ∨ (hist.length : Int) < n
  · simp only [hbad, if_true]
    rcases hbad with hb | hb
    · clear h hrow
      go_enter Tryz.func15, Tryz.ntmps15
      go_wp2_with (go_at_call 29; refine ht.mono ?_; rintro e w1 ⟨rfl, rfl⟩)
      go_ret2
      exact ⟨rfl, rfl⟩
    · have hb0 : ¬ n < 0 := by omega
      clear h hrow
      go_enter Tryz.func15, Tryz.ntmps15
      go_wp2_with (go_at_call 29; refine ht.mono ?_; rintro e w1 ⟨rfl, rfl⟩)
      go_ret2
      exact ⟨rfl, rfl⟩
  · simp only [hbad, if_false]
    obtain ⟨m, rfl⟩ : ∃ m : Nat, n = m := ⟨n.toNat, by omega⟩
    have hm : m ≤ hist.length := by omega
    simp only [Int.toNat_natCast]
    have hcells : ∀ j, j < hist.length → ∃ b, A = some ⟨b, 0, none⟩ ∧ b < w.heap.size ∧ ∃ f r, hist[j]? = some r ∧ RawAt w Ro f r ∧ w.cell? ⟨b, j, none⟩ = some f := by
      intro j hj
      rcases hrow.2 with ⟨h1, h2⟩ | ⟨g, cap, cur, h1, _, h3, _⟩
      · omega
      · injection h1 with h1
        subst h1
        have hl : fs.length = hist.length := by simpa using hrow.1
        have hf := List.getElem?_eq_getElem (l := fs) (i := j) (by omega)
        have hr := List.getElem?_eq_getElem (l := hist) (i := j) hj
        refine ⟨g, rfl, (Array.getElem?_eq_some_iff.1 h3).1, _, _, hr, h.raws.2 j _ _ hf hr, ?_⟩
        have := hrow.cells (g := g) rfl j _ hf
        rw [add_addr] at this
        simpa using this
    have HC := Lib.hid hcells
    have hdb : db < w.heap.size := h.hold.lt
    have hmc : m ≤ c := by omega
    have hmm := @run_makeMap Tryz.prog
    clear h hrow hcells hbad
    go_enter Tryz.func15, Tryz.ntmps15
    go_wp2_with (go_at_call 29; refine ht.mono ?_; rintro e w1 ⟨rfl, rfl⟩)
    have hd1 : decide (hist.length < m) = false := decide_eq_false (by omega)
    have hd2 : decide ((m : Int) < 0) = false := decide_eq_false (by omega)
    simp only [hd1, hd2, Bool.or_false]
    go_loopg [8, 37] m (fun q _ vi wr => ∃ k : Nat, k + q = m ∧ vi = .int .i64 (k : Int) ∧ ∃ F1 es1 hv1 fs1, DiskAt wr F1 Ro (w1.heap.size + 1) size es1 (hist.take k) w1.heap.size hv1 fs1 (hist.take k) ∧ (∀ j, F1 j → w1.heap.size ≤ j) ∧ Below w1.heap.size w1 wr)
    case atStart =>
      have hH := Holds.new (w1.alloc (.map #[] 0)) 70 #[.int .i64 (size : Int), .int .i64 0, .map (some w1.heap.size), .slice none 0 0]
      rw [World.size_alloc] at hH
      refine ⟨0, by omega, rfl, fun k => k = w1.heap.size ∨ k = w1.heap.size + 1, [], .slice none 0 0, [], DiskAt.new hH ((FsMap.new w1 _ _).eq (Below.heap_alloc _ _ _ (by simp))) (by omega) (.inr rfl) (.inl rfl) (fun k hk => by simp; omega) (fun k hk => by have := HW.out.ltR k hk; simp; omega) (fun k hk hf => by have := HW.out.ltR k hk; omega), fun k hk => by omega, ((Below.refl _ w1).alloc (Nat.le_refl _) _).alloc (by simp) _⟩
    case round =>
      obtain ⟨k, hk, rfl, F1, es1, hv1, fs1, hD, hF, hB⟩ := hrel
      by_cases hlt : k < m
      · obtain ⟨b, rfl, hbl, f, r, hr, hra, hcf⟩ := HC.out k (by omega)
        have hcf2 := (hB.cell (p := ⟨b, k, none⟩) hbl).trans hcf
        have hel := hD.len_le
        have hus := hD.used_le
        have htl : (hist.take k).length = k := by rw [List.length_take]; omega
        have hra2 := raw_any hD (hra.chg (Ro' := Ro) (Chg.below hB (fun _ => False)) (fun _ h => h) (fun _ _ h => h)) (by omega) (by omega) (by omega)
        have hts : hist.take (k + 1) = hist.take k ++ [r] := by rw [List.take_add_one, hr]; rfl
        have HD := Lib.hid hD
        have HB := Lib.hid hB
        have HF := Lib.hid hF
        clear hD hB hF
        go_wp2_with (go_at_call 31; refine hra2.mono ?_; rintro e w2 ⟨⟨v2, rfl⟩, es2, hv2, hD2, hc2⟩)
        have hs2 := hc2.size
        have hs1 := HB.out.size
        go_roundg (gk - 1)
        case measure => omega
        case rel =>
          refine ⟨k + 1, by omega, by go_num, _, es2, hv2, _, hts ▸ hD2, fun j hj => ?_, HB.out.trans (hc2.toBelow hs1 (fun j hj => HF.out j hj))⟩
          rcases hj with hj | hj
          · exact HF.out j hj
          · omega
      · obtain rfl : k = m := by omega
        go_wp2
        go_ret2
        exact ⟨_, rfl, F1, _, es1, hv1, fs1, hD, hF, hB⟩
end Go.Proofs.YtggnkpblfmjbcaaGreatDoor
namespace Go.Proofs.YtggnkpblfmjbcaaGreatDoor
open Go.RowKit Go.Bd
theorem ret_bool {a b : Bool} (h : a = b) : Ending.returned (.bool a) = .returned (.bool b) := by rw [h]
theorem ba_ext {s t : ByteArray} (h : s.data.toList = t.data.toList) : s = t := by
  cases s; cases t
  simp only at h
  rw [Array.toList_inj.1 h]
theorem ba_ne {s t : ByteArray} (h : ¬ s = t) : (s.toList == t.toList) = false := by
  rw [ByteArray.toList_eq, ByteArray.toList_eq]
  exact beq_eq_false_iff_ne.2 fun e => h (ba_ext e)
def Texts (w : World) (B : Nat) (v : Value) (xs : List ByteArray) : Prop := Rd w B v (xs.map Value.string)
theorem Texts.form {w : World} {B : Nat} {v : Value} {xs : List ByteArray} (h : Texts w B v xs) : ∃ A c, v = .slice A xs.length c ∧ xs.length ≤ c ∧ ∀ (j : Nat) s, xs[j]? = some s → ∃ b off, A = some ⟨b, off, none⟩ ∧ b < B ∧ w.cell? ⟨b, off + j, none⟩ = some (.string s) := by
  obtain ⟨A, c, hv, hc, h⟩ := Rd.form h
  rw [List.length_map] at hv hc
  exact ⟨A, c, hv, hc, fun j s hj => h j _ (by rw [List.getElem?_map, hj]; rfl)⟩
set_option maxRecDepth 100000 in
theorem sameTexts_any (va vb : Value) (xs ys : List ByteArray) (w : World) (B : Nat) (ha : Texts w B va xs) (hb : Texts w B vb ys) (hx : xs.length ≤ 140737488355328) (hy : ys.length ≤ 140737488355328) :
    Calls Tryz.prog 21 #[va, vb] w fun e w' => e = .returned (.bool (decide (xs = ys))) ∧ Below w.heap.size w w' := by
  obtain ⟨A, ca, rfl, hca, fa⟩ := ha.form
  obtain ⟨C, cb, rfl, hcb, fb⟩ := hb.form
  have FA := Lib.hid fa
  have FB := Lib.hid fb
  clear ha hb fa fb
  generalize hn : xs.length = n at hx hca ⊢
  generalize hm : ys.length = m at hy hcb ⊢
  have HN := Lib.hid hn
  have HM := Lib.hid hm
  clear hn hm
  by_cases hnm : n = m
  · subst hnm
    go_enter Tryz.func21, Tryz.ntmps21
    go_wp2
    go_loopg [5] n (fun r i wr => ∃ k : Nat, k + r = n ∧ i = .int .i64 k ∧ Hid (xs.take k = ys.take k) ∧ Below w.heap.size w wr ∧ (∀ p : Addr, wr.cell? p = w.cell? p))
    case atStart => exact ⟨0, by omega, rfl, by unfold Hid; simp, Below.refl _ _, fun _ => rfl⟩
    case round =>
      obtain ⟨k, hk, rfl, HT, hbl, hcell⟩ := hrel
      by_cases hlt : k < n
      · obtain ⟨s, hs⟩ : ∃ s, xs[k]? = some s := ⟨_, List.getElem?_eq_getElem (by rw [HN.out]; exact hlt)⟩
        obtain ⟨t, ht⟩ : ∃ s, ys[k]? = some s := ⟨_, List.getElem?_eq_getElem (by rw [HM.out]; exact hlt)⟩
        obtain ⟨b1, o1, rfl, _, c1⟩ := FA.out k s hs
        obtain ⟨b2, o2, rfl, _, c2⟩ := FB.out k t ht
        replace c1 := (hcell _).trans c1
        replace c2 := (hcell _).trans c2
        have HC := Lib.hid hcell
        have HS := Lib.hid hs
        have HT2 := Lib.hid ht
        clear hcell hs ht
        by_cases hst : s = t
        · subst hst
          go_wp2
          go_quiet (fail)
          go_wp2
          have hb2 := Go.below_drewN hbl nq
          go_roundg (gk - 1)
          case measure => omega
          case rel =>
            refine ⟨k + 1, by omega, by go_num, ?_, hb2, fun p => HC.out p⟩
            unfold Hid
            rw [List.take_add_one, List.take_add_one, HS.out, HT2.out, HT.out]
        · have e1 := ba_ne hst
          go_wp2
          go_quiet (fail)
          go_wp2
          have hb2 := Go.below_drewN hbl nq
          go_ret
          refine ⟨ret_bool ?_, hb2⟩
          refine (decide_eq_false fun e => hst ?_).symm
          have h1 := HS.out; have h2 := HT2.out
          rw [e, h2] at h1
          exact (Option.some.inj h1).symm
      · have hk' : n ≤ k := by omega
        have HC := Lib.hid hcell
        clear hcell
        go_wp2
        go_ret
        refine ⟨ret_bool ?_, hbl⟩
        have h1 := HT.out
        rw [List.take_of_length_le (by rw [HN.out]; exact hk'), List.take_of_length_le (by rw [HM.out]; exact hk')] at h1
        exact (decide_eq_true h1).symm
  · go_enter Tryz.func21, Tryz.ntmps21
    go_wp2
    go_ret
    refine ⟨ret_bool ?_, Below.refl _ _⟩
    refine (decide_eq_false fun e => hnm ?_).symm
    rw [← HN.out, ← HM.out, e]
def BytesR (w : World) (B : Nat) (v : Value) (xs : Bs) : Prop := Rd w B v (u8L xs)
theorem BytesR.form {w : World} {B : Nat} {v : Value} {xs : Bs} (h : BytesR w B v xs) : ∃ A c, v = .slice A xs.length c ∧ xs.length ≤ c ∧ ∀ (j : Nat) s, xs[j]? = some s → ∃ b off, A = some ⟨b, off, none⟩ ∧ b < B ∧ w.cell? ⟨b, off + j, none⟩ = some (.int .u8 (s.toNat : Int)) := by
  obtain ⟨A, c, hv, hc, h⟩ := Rd.form h
  rw [u8L_length] at hv hc
  exact ⟨A, c, hv, hc, fun j s hj => h j _ (by unfold u8L; rw [List.getElem?_map, hj]; rfl)⟩
set_option maxRecDepth 100000 in
theorem sameBytes_any (va vb : Value) (xs ys : Bs) (w : World) (B : Nat) (ha : BytesR w B va xs) (hb : BytesR w B vb ys) (hx : xs.length ≤ 140737488355328) (hy : ys.length ≤ 140737488355328) :
    Calls Tryz.prog 20 #[va, vb] w fun e w' => e = .returned (.bool (decide (xs = ys))) ∧ Below w.heap.size w w' := by
  obtain ⟨A, ca, rfl, hca, fa⟩ := ha.form
  obtain ⟨C, cb, rfl, hcb, fb⟩ := hb.form
  have FA := Lib.hid fa
  have FB := Lib.hid fb
  clear ha hb fa fb
  generalize hn : xs.length = n at hx hca ⊢
  generalize hm : ys.length = m at hy hcb ⊢
  have HN := Lib.hid hn
  have HM := Lib.hid hm
  clear hn hm
  by_cases hnm : n = m
  · subst hnm
    go_enter Tryz.func20, Tryz.ntmps20
    go_wp2
    go_loopg [5] n (fun r i wr => ∃ k : Nat, k + r = n ∧ i = .int .i64 k ∧ Hid (xs.take k = ys.take k) ∧ Below w.heap.size w wr ∧ (∀ p : Addr, wr.cell? p = w.cell? p))
    case atStart => exact ⟨0, by omega, rfl, by unfold Hid; simp, Below.refl _ _, fun _ => rfl⟩
    case round =>
      obtain ⟨k, hk, rfl, HT, hbl, hcell⟩ := hrel
      by_cases hlt : k < n
      · obtain ⟨s, hs⟩ : ∃ s, xs[k]? = some s := ⟨_, List.getElem?_eq_getElem (by rw [HN.out]; exact hlt)⟩
        obtain ⟨t, ht⟩ : ∃ s, ys[k]? = some s := ⟨_, List.getElem?_eq_getElem (by rw [HM.out]; exact hlt)⟩
        obtain ⟨b1, o1, rfl, _, c1⟩ := FA.out k s hs
        obtain ⟨b2, o2, rfl, _, c2⟩ := FB.out k t ht
        replace c1 := (hcell _).trans c1
        replace c2 := (hcell _).trans c2
        have HC := Lib.hid hcell
        have HS := Lib.hid hs
        have HT2 := Lib.hid ht
        clear hcell hs ht
        by_cases hst : s = t
        · subst hst
          go_wp2
          go_quiet (fail)
          go_wp2
          have hb2 := Go.below_drewN hbl nq
          go_roundg (gk - 1)
          case measure => omega
          case rel =>
            refine ⟨k + 1, by omega, by go_num, ?_, hb2, fun p => HC.out p⟩
            unfold Hid
            rw [List.take_add_one, List.take_add_one, HS.out, HT2.out, HT.out]
        · have e1 : ¬ s.toNat = t.toNat := fun e => hst (UInt8.toNat_inj.1 e)
          go_wp2
          go_quiet (fail)
          go_wp2
          have hb2 := Go.below_drewN hbl nq
          go_ret
          refine ⟨ret_bool ?_, hb2⟩
          refine (decide_eq_false fun e => hst ?_).symm
          have h1 := HS.out; have h2 := HT2.out
          rw [e, h2] at h1
          exact (Option.some.inj h1).symm
      · have hk' : n ≤ k := by omega
        have HC := Lib.hid hcell
        clear hcell
        go_wp2
        go_ret
        refine ⟨ret_bool ?_, hbl⟩
        have h1 := HT.out
        rw [List.take_of_length_le (by rw [HN.out]; exact hk'), List.take_of_length_le (by rw [HM.out]; exact hk')] at h1
        exact (decide_eq_true h1).symm
  · go_enter Tryz.func20, Tryz.ntmps20
    go_wp2
    go_ret
    refine ⟨ret_bool ?_, Below.refl _ _⟩
    refine (decide_eq_false fun e => hnm ?_).symm
    rw [← HN.out, ← HM.out, e]
end Go.Proofs.YtggnkpblfmjbcaaGreatDoor
namespace Go.Proofs.YtggnkpblfmjbcaaGreatDoor
open Go.RowKit Go.Bd
theorem delB_delB (fs : Fs) (s : ByteArray) : delB (delB fs s) s = delB fs s := by
  unfold delB
  rw [List.filter_filter]
  simp
theorem setB_setB (fs : Fs) (s : ByteArray) (a b : Bs) : setB (setB fs s a) s b = setB fs s b := by
  unfold setB
  have h : delB (delB fs s ++ [(s, a)]) s = delB fs s := by
    have h1 : delB (delB fs s ++ [(s, a)]) s = delB (delB fs s) s ++ delB [(s, a)] s := by unfold delB; rw [List.filter_append]
    rw [h1, delB_delB]
    simp [delB]
  rw [h]
theorem run_pieces (s : ByteArray) : ∀ (ps : List Bs) (fs : Fs) (acc : Bs), (ps.map (Raw.behind s)).foldl (fun fs r => r.app fs) (setB fs s acc) = setB fs s (acc ++ ps.flatten)
  | [], fs, acc => by simp
  | p :: ps, fs, acc => by
    rw [List.map_cons, List.foldl_cons]
    have h : (Raw.behind s p).app (setB fs s acc) = setB fs s (acc ++ p) := by
      unfold Raw.app
      simp only [getB_set_same, Option.getD_some, setB_setB]
    rw [h, run_pieces s ps fs (acc ++ p)]
    simp
theorem pieces_flatten (q : Bs) : ∀ n, ((List.range n).map (pieceAt q)).flatten = q.take (n * 512)
  | 0 => by simp
  | n + 1 => by
    rw [List.range_succ, List.map_append, List.flatten_append, pieces_flatten q n]
    simp only [List.map_cons, List.map_nil, List.flatten_cons, List.flatten_nil, List.append_nil]
    unfold pieceAt
    have e : (n + 1) * 512 = n * 512 + 512 := by omega
    rw [e, List.take_add]
theorem chunks_flatten (q : Bs) : (chunksB q).flatten = q := by
  unfold chunksB
  rw [pieces_flatten, List.take_of_length_le (by omega)]
theorem run_write (h : List Raw) (s : ByteArray) (q : Bs) : runR (h ++ (.empty s :: (chunksB q).map (.behind s))) = setB (runR h) s q := by
  unfold runR
  rw [List.foldl_append, List.foldl_cons]
  show List.foldl _ (setB _ s []) _ = _
  rw [run_pieces, List.nil_append, chunks_flatten]
theorem run_rawsW (h : List Raw) (size : Nat) (s : ByteArray) (q : Bs) : runR (h ++ rawsW (runR h) size s q) = if writeE (runR h) size s q = 0 then setB (runR h) s q else runR h := by
  unfold rawsW
  split
  · exact run_write h s q
  · rw [List.append_nil]
def Dk (w : World) (F Ro : Nat → Prop) (db size : Nat) (hist : List Raw) : Prop := ∃ bm es hv fs, DiskAt w F Ro db size es hist bm hv fs hist
section
variable {w w' : World} {F F' Ro S : Nat → Prop} {db size : Nat} {hist : List Raw}
theorem Dk.chg (h : Dk w F Ro db size hist) (hc : Chg w w' S) (hS : ∀ k, F k → ¬ S k) (hR : ∀ k, Ro k → ¬ S k) : Dk w' F Ro db size hist := by
  obtain ⟨bm, es, hv, fs, h⟩ := h
  exact ⟨bm, es, hv, fs, h.chg (F' := F) (Ro' := Ro) hc hS hR⟩
theorem Dk.below (h : Dk w F Ro db size hist) (hb : Below w.heap.size w w') : Dk w' F Ro db size hist := h.chg (Chg.below hb (fun _ => False)) (fun _ _ h => h) (fun _ _ h => h)
theorem Dk.ltF (h : Dk w F Ro db size hist) : ∀ k, F k → k < w.heap.size := by
  obtain ⟨bm, es, hv, fs, h⟩ := h
  exact h.ltF
theorem Dk.ltR (h : Dk w F Ro db size hist) : ∀ k, Ro k → k < w.heap.size := by
  obtain ⟨bm, es, hv, fs, h⟩ := h
  exact h.ltR
theorem Dk.off (h : Dk w F Ro db size hist) : ∀ k, Ro k → ¬ F k := by
  obtain ⟨bm, es, hv, fs, h⟩ := h
  exact h.off
theorem new_dk (size : Nat) (hs : size ≤ 8388608) (w : World) :
    Calls Tryz.prog 6 #[.int .i64 (size : Int)] w fun e w' => ∃ db, e = .returned (.tuple #[.pointer (some ⟨db, 0, none⟩), .int .i64 0]) ∧ Dk w' (fun k => w.heap.size ≤ k ∧ k < w'.heap.size) (fun _ => False) db size [] ∧ Below w.heap.size w w' := by
  refine (new_any size hs w).mono ?_
  rintro e w' ⟨rfl, h1, h2, h3, h4⟩
  exact ⟨_, rfl, ⟨_, _, _, _, DiskAt.new h1 h2 (by omega) ⟨by omega, by omega⟩ ⟨by omega, by omega⟩ (fun k hk => hk.2) (fun k hk => hk.elim) (fun k hk => hk.elim)⟩, h3⟩
theorem write_dk (h : Dk w F Ro db size hist) (s : ByteArray) (hs : s.size ≤ 140737488355328) (q : Bs) (A : Option Addr) (c : Nat)
    (hA : InB w F A q) (hq : q.length ≤ 100000000) (hc : q.length ≤ c) (hh : hist.length + (q.length + 511) / 512 + 2 ≤ 900000) (hsz : size ≤ 8388608) :
    Calls Tryz.prog 8 #[.pointer (some ⟨db, 0, none⟩), .string s, .slice A q.length c] w fun e w' => e = .returned (.int .i64 (writeE (runR hist) size s q : Int)) ∧
      ∃ F' Ro', Dk w' F' Ro' db size (hist ++ rawsW (runR hist) size s q) ∧ (∀ k, F' k → F k ∨ w.heap.size ≤ k) ∧ (∀ k, Ro' k → Ro k ∨ w.heap.size ≤ k) ∧ Chg w w' F := by
  obtain ⟨bm, es, hv, fs, h⟩ := h
  refine (write_any h s hs q A c hA hq hc hh hsz).mono ?_
  rintro e w' ⟨rfl, F', Ro', es', hv', fs', h1, h2, h3, h4⟩
  exact ⟨rfl, F', Ro', ⟨bm, es', hv', fs', h1⟩, h2, h3, h4⟩
theorem remove_dk (h : Dk w F Ro db size hist) (s : ByteArray) (hs : s.size ≤ 140737488355328) (hh : hist.length + 2 ≤ 900000) :
    Calls Tryz.prog 13 #[.pointer (some ⟨db, 0, none⟩), .string s] w fun e w' => e = .returned (.int .i64 (removeE (runR hist) s : Int)) ∧
      ∃ F' Ro', Dk w' F' Ro' db size (hist ++ rawsD (runR hist) s) ∧ (∀ k, F' k → F k ∨ w.heap.size ≤ k) ∧ (∀ k, Ro' k → Ro k ∨ w.heap.size ≤ k) ∧ Chg w w' F := by
  obtain ⟨bm, es, hv, fs, h⟩ := h
  refine (remove_any h s hs hh).mono ?_
  rintro e w' ⟨rfl, F', Ro', es', hv', fs', h1, h2, h3, h4⟩
  exact ⟨rfl, F', Ro', ⟨bm, es', hv', fs', h1⟩, h2, h3, h4⟩
theorem read_dk (h : Dk w F Ro db size hist) (s : ByteArray) (hs : s.size ≤ 140737488355328) (hh : hist.length ≤ 900000) :
    Calls Tryz.prog 18 #[.pointer (some ⟨db, 0, none⟩), .string s] w fun e w' => ∃ v', e = .returned (.tuple #[v', .int .i64 ((readB (runR hist) s).2 : Int)]) ∧ w'.ownsRow w.heap.size 5 1 v' (readB (runR hist) s).1.length (u8L (readB (runR hist) s).1) ∧ Below w.heap.size w w' := by
  obtain ⟨bm, es, hv, fs, h⟩ := h
  have h1 := h.used_le
  have h2 := read_any h s hs (by omega)
  rw [h.says] at h2
  exact h2
theorem names_dk (h : Dk w F Ro db size hist) (hh : hist.length ≤ 900000) :
    Calls Tryz.prog 11 #[.pointer (some ⟨db, 0, none⟩)] w fun e w' => ∃ v, e = .returned v ∧ w'.ownsRow w.heap.size 9 1 v (namesB (runR hist)).length ((namesB (runR hist)).map Go.Proofs.encStr) ∧ Below w.heap.size w w' := by
  obtain ⟨bm, es, hv, fs, h⟩ := h
  exact names_any h hh
theorem used_dk (h : Dk w F Ro db size hist) :
    Calls Tryz.prog 9 #[.pointer (some ⟨db, 0, none⟩)] w fun e w' => e = .returned (.int .i64 (usedB (runR hist) : Int)) ∧ w' = w := by
  obtain ⟨bm, es, hv, fs, h⟩ := h
  have h2 := used_any h
  rw [h.says] at h2
  exact h2
theorem writes_dk (h : Dk w F Ro db size hist) :
    Calls Tryz.prog 10 #[.pointer (some ⟨db, 0, none⟩)] w fun e w' => e = .returned (.int .i64 (hist.length : Int)) ∧ w' = w := by
  obtain ⟨bm, es, hv, fs, h⟩ := h
  exact writes_any h
theorem cut_dk (h : Dk w F Ro db size hist) (n : Int) (hh : hist.length + 2 ≤ 900000) (hsz : size ≤ 8388608) :
    Calls Tryz.prog 15 #[.pointer (some ⟨db, 0, none⟩), .int .i64 n] w fun e w' => if n < 0 ∨ (hist.length : Int) < n then e = .returned (.tuple #[.pointer none, .int .i64 1]) ∧ w' = w else
      ∃ ndb, e = .returned (.tuple #[.pointer (some ⟨ndb, 0, none⟩), .int .i64 0]) ∧ Dk w' (fun k => w.heap.size ≤ k ∧ k < w'.heap.size) Ro ndb size (hist.take n.toNat) ∧ Below w.heap.size w w' := by
  obtain ⟨bm, es, hv, fs, h⟩ := h
  refine (cut_any h n hh hsz).mono ?_
  intro e w' hp
  by_cases hn : n < 0 ∨ (hist.length : Int) < n
  · simp only [hn, if_true] at hp ⊢
    exact hp
  · simp only [hn, if_false] at hp ⊢
    obtain ⟨ndb, rfl, F', bm', es', hv', fs', h1, h2, h3⟩ := hp
    exact ⟨ndb, rfl, ⟨bm', es', hv', fs', h1.wider (fun k hk => ⟨h2 k hk, h1.ltF k hk⟩) (fun k hk => hk.2) (fun k hk hf => by have := h.ltR k hk; omega)⟩, h3⟩
end
set_option maxRecDepth 100000 in
set_option maxHeartbeats 2000000 in
theorem write_nil (s : ByteArray) (v : Value) (w : World) :
    Calls Tryz.prog 8 #[.pointer none, .string s, v] w fun e w' => e = .returned (.int .i64 2) ∧ Below w.heap.size w w' := by
  refine (callsIn_wide (n := 3)).1 ?_
  refine callsIn_of_wp_marks Tryz.func8 rfl trivial ?_ rfl
  refine wpIn_mono ?_ (noP_mono _)
  refine wpIn_wide.2 ?_
  simp only [Tryz.ntmps8, List.size_toArray, List.length_cons, List.length_nil, Nat.reduceAdd, Nat.reduceSub, Array.replicate_succ, Array.replicate_zero, List.push_toArray, List.append_toArray, List.nil_append, List.cons_append]
  go_wp2_with (go_at_call 29; refine (there_nil _).mono ?_; rintro e w1 ⟨rfl, rfl⟩)
  exact ⟨_, results_tmp rfl _ _ _, rfl, ((Below.refl _ w).alloc (Nat.le_refl _) _).alloc (by simp) _⟩
set_option maxRecDepth 100000 in
set_option maxHeartbeats 2000000 in
theorem writes_nil (w : World) :
    Calls Tryz.prog 10 #[.pointer none] w fun e w' => e = .returned (.int .i64 0) ∧ w' = w := by
  go_enter Tryz.func10, Tryz.ntmps10
  go_wp2_with (go_at_call 29; refine (there_nil _).mono ?_; rintro e w1 ⟨rfl, rfl⟩)
  go_ret
  exact ⟨rfl, rfl⟩
end Go.Proofs.YtggnkpblfmjbcaaGreatDoor
namespace Go.Bd
open Go.Maps
abbrev ltS (a b : ByteArray) : Prop := a.data.toList < b.data.toList
theorem ltS_irr (a : ByteArray) : ¬ ltS a a := fun h => List.lt_irrefl a.data.toList h
theorem ltS_ne {a b : ByteArray} (h : ltS a b) : a ≠ b := fun e => ltS_irr b (e ▸ h)
theorem ba_eq {a b : ByteArray} (h : a.data.toList = b.data.toList) : a = b := by
  cases a; cases b
  exact congrArg ByteArray.mk (Array.toList_inj.1 h)
theorem ltS_tri {a b : ByteArray} (h : ¬ ltS a b) (hn : a ≠ b) : ltS b a := by
  by_cases h2 : b.data.toList < a.data.toList
  · exact h2
  · exact absurd (ba_eq (List.le_antisymm (List.not_lt.1 h2) (List.not_lt.1 h))) hn
def plc (l : Fs) (s : ByteArray) : Nat := (l.takeWhile (fun p => decide (ltS p.1 s))).length
def fnd (l : Fs) (s : ByteArray) : Bool := match l[plc l s]? with | some p => decide (p.1 = s) | none => false
def setO (l : Fs) (s : ByteArray) (q : Bs) : Fs := if fnd l s = true then l.set (plc l s) (s, q) else l.take (plc l s) ++ [(s, q)] ++ l.drop (plc l s)
def delO (l : Fs) (s : ByteArray) : Fs := l.take (plc l s) ++ l.drop (plc l s + 1)
def Raw.appO : Raw → Fs → Fs
  | .empty n, l => setO l n []
  | .behind n b, l => setO l n ((getB l n).getD [] ++ b)
  | .gone n, l => delO l n
def Raw.okAt : Raw → Fs → Prop
  | .empty _, _ => True
  | .behind n _, l => (getB l n).isSome = true
  | .gone n, l => (getB l n).isSome = true
def runO (h : List Raw) : Fs := h.foldl (fun l r => r.appO l) []
theorem runO_snoc (h : List Raw) (r : Raw) : runO (h ++ [r]) = r.appO (runO h) := by unfold runO; rw [List.foldl_append]; rfl
def Asc (l : Fs) : Prop := l.Pairwise (fun a b => ltS a.1 b.1)
theorem plc_le (l : Fs) (s : ByteArray) : plc l s ≤ l.length := (List.takeWhile_sublist _).length_le
theorem getB_none {l : Fs} {s : ByteArray} (h : ∀ p ∈ l, p.1 ≠ s) : getB l s = none := by
  unfold getB
  rw [List.find?_eq_none.2 (fun p hp => by simpa using h p hp)]
  rfl
theorem getB_app (a b : Fs) (s : ByteArray) : getB (a ++ b) s = (getB a s).or (getB b s) := by
  unfold getB
  rw [List.find?_append]
  cases List.find? (fun p => decide (p.1 = s)) a <;> simp
theorem getB_cons (p : ByteArray × Bs) (l : Fs) (s : ByteArray) : getB (p :: l) s = if p.1 = s then some p.2 else getB l s := by
  unfold getB
  rw [List.find?_cons]
  by_cases h : p.1 = s
  · rw [if_pos h]; simp [h]
  · rw [if_neg h]; simp [h]
theorem asc_cut {l : Fs} (h : Asc l) (s : ByteArray) : ∃ pre suf, l = pre ++ suf ∧ plc l s = pre.length ∧ (∀ p ∈ pre, ltS p.1 s) ∧ ((∃ q t, suf = (s, q) :: t ∧ fnd l s = true ∧ ∀ p ∈ t, ltS s p.1) ∨ (fnd l s = false ∧ ∀ p ∈ suf, ltS s p.1)) := by
  have e := (List.takeWhile_append_dropWhile (p := fun p : ByteArray × Bs => decide (ltS p.1 s)) (l := l)).symm
  obtain ⟨pre, hpre⟩ : ∃ pre, l.takeWhile (fun p => decide (ltS p.1 s)) = pre := ⟨_, rfl⟩
  obtain ⟨suf, hsuf⟩ : ∃ suf, l.dropWhile (fun p => decide (ltS p.1 s)) = suf := ⟨_, rfl⟩
  have hp : plc l s = pre.length := by unfold plc; rw [hpre]
  rw [hpre, hsuf] at e
  have hlt : ∀ p ∈ pre, ltS p.1 s := fun p hm => by
    rw [← hpre] at hm
    have := List.all_eq_true.1 List.all_takeWhile p hm
    simpa using this
  refine ⟨pre, suf, e, hp, hlt, ?_⟩
  have hf : fnd l s = match suf[0]? with | some p => decide (p.1 = s) | none => false := by
    unfold fnd
    rw [hp, e, List.getElem?_append_right (Nat.le_refl _), Nat.sub_self]
  cases suf with
  | nil => exact .inr ⟨by rw [hf]; rfl, fun p hm => by cases hm⟩
  | cons x t =>
    have hx : ¬ ltS x.1 s := by
      have h1 := List.head?_dropWhile_not (fun p : ByteArray × Bs => decide (ltS p.1 s)) l
      rw [hsuf] at h1
      simpa using h1
    have ht : ∀ p ∈ t, ltS x.1 p.1 := by
      have h2 : Asc (x :: t) := by
        have := h
        rw [e] at this
        exact (List.pairwise_append.1 this).2.1
      exact (List.pairwise_cons.1 h2).1
    rw [List.getElem?_cons_zero] at hf
    simp only at hf
    by_cases hxs : x.1 = s
    · obtain ⟨n, q⟩ := x
      simp only at hxs
      subst hxs
      exact .inl ⟨q, t, rfl, by rw [hf]; simp, ht⟩
    · have h3 := ltS_tri hx hxs
      refine .inr ⟨by rw [hf]; simp [hxs], fun p hm => ?_⟩
      rcases List.mem_cons.1 hm with rfl | hm
      · exact h3
      · exact List.lt_trans h3 (ht p hm)
theorem asc_get {l : Fs} (h : Asc l) (s : ByteArray) : (getB l s).isSome = fnd l s ∧ ∀ p, fnd l s = true → l[plc l s]? = some p → p.1 = s ∧ getB l s = some p.2 := by
  obtain ⟨pre, suf, e, hp, h1, h2⟩ := asc_cut h s
  have hn := getB_none (l := pre) (s := s) (fun p hm => ltS_ne (h1 p hm))
  rw [hp, e, getB_app, hn, Option.none_or]
  rcases h2 with ⟨q, t, rfl, hf, ht⟩ | ⟨hf, ht⟩
  · rw [e] at hf
    rw [hf, getB_cons, if_pos rfl]
    refine ⟨rfl, fun p _ hg => ?_⟩
    rw [List.getElem?_append_right (Nat.le_refl _), Nat.sub_self] at hg
    cases hg
    exact ⟨rfl, rfl⟩
  · rw [e] at hf
    rw [hf, getB_none (fun p hm => (ltS_ne (ht p hm)).symm)]
    exact ⟨rfl, fun p h => by cases h⟩
theorem asc_set {l : Fs} (h : Asc l) (s : ByteArray) (q : Bs) : Asc (setO l s q) ∧ ∀ t, getB (setO l s q) t = if t = s then some q else getB l t := by
  obtain ⟨pre, suf, e, hp, h1, h2⟩ := asc_cut h s
  have hA := h
  rw [e] at hA
  obtain ⟨hA1, hA2, hA3⟩ := List.pairwise_append.1 hA
  have key : ∀ r, (∀ p ∈ r, ltS s p.1) → Asc r → (∀ a ∈ pre, ∀ b ∈ r, ltS a.1 b.1) → Asc (pre ++ (s, q) :: r) := fun r hr hrA hpr => by
    refine List.pairwise_append.2 ⟨hA1, List.pairwise_cons.2 ⟨hr, hrA⟩, fun a ha b hb => ?_⟩
    rcases List.mem_cons.1 hb with rfl | hb
    · exact h1 a ha
    · exact hpr a ha b hb
  rcases h2 with ⟨q0, t, rfl, hf, ht⟩ | ⟨hf, ht⟩
  · have hs : setO l s q = pre ++ (s, q) :: t := by
      unfold setO
      rw [if_pos hf, hp, e, List.set_append_right _ _ (Nat.le_refl _), Nat.sub_self]
      rfl
    rw [hs]
    refine ⟨key t ht (List.pairwise_cons.1 hA2).2 (fun a ha b hb => hA3 a ha b (List.mem_cons_of_mem _ hb)), fun u => ?_⟩
    rw [e, getB_app, getB_app, getB_cons, getB_cons]
    by_cases hu : u = s
    · subst hu
      rw [getB_none (fun p hm => ltS_ne (h1 p hm)), if_pos rfl, if_pos rfl, Option.none_or]
    · rw [if_neg (Ne.symm hu), if_neg (Ne.symm hu), if_neg hu]
  · have hs : setO l s q = pre ++ (s, q) :: suf := by
      unfold setO
      rw [hf, if_neg (by decide), hp, e, List.take_left, List.drop_left, List.append_assoc]
      rfl
    rw [hs]
    refine ⟨key suf ht hA2 (fun a ha b hb => hA3 a ha b hb), fun u => ?_⟩
    rw [e, getB_app, getB_app, getB_cons]
    by_cases hu : u = s
    · subst hu
      rw [getB_none (fun p hm => ltS_ne (h1 p hm)), if_pos rfl, if_pos rfl, Option.none_or]
    · rw [if_neg (Ne.symm hu), if_neg hu]
theorem asc_del {l : Fs} (h : Asc l) {s : ByteArray} (hf : fnd l s = true) : Asc (delO l s) ∧ ∀ t, getB (delO l s) t = if t = s then none else getB l t := by
  obtain ⟨pre, suf, e, hp, h1, h2⟩ := asc_cut h s
  rcases h2 with ⟨q0, t, rfl, _, ht⟩ | ⟨hf', _⟩
  · have hs : delO l s = pre ++ t := by
      unfold delO
      rw [hp, e, List.take_left, List.drop_append, List.drop_of_length_le (by omega), Nat.add_sub_cancel_left]
      rfl
    have hA := h
    rw [e] at hA
    obtain ⟨hA1, hA2, hA3⟩ := List.pairwise_append.1 hA
    rw [hs]
    refine ⟨List.pairwise_append.2 ⟨hA1, (List.pairwise_cons.1 hA2).2, fun a ha b hb => hA3 a ha b (List.mem_cons_of_mem _ hb)⟩, fun u => ?_⟩
    rw [e, getB_app, getB_app, getB_cons]
    by_cases hu : u = s
    · subst hu
      rw [getB_none (fun p hm => ltS_ne (h1 p hm)), getB_none (fun p hm => (ltS_ne (ht p hm)).symm), if_pos rfl]
      rfl
    · rw [if_neg (Ne.symm hu), if_neg hu]
  · rw [hf] at hf'; cases hf'
theorem getB_del (fs : Fs) (s t : ByteArray) : getB (delB fs s) t = if t = s then none else getB fs t := by
  unfold getB delB
  rw [List.find?_filter]
  by_cases ht : t = s
  · subst ht
    rw [if_pos rfl, List.find?_eq_none.2 (fun p _ => by simp)]
    rfl
  · rw [if_neg ht]
    congr 2
    funext p
    by_cases hp : p.1 = t
    · simp [hp, ht]
    · simp [hp]
theorem getB_set (fs : Fs) (s t : ByteArray) (q : Bs) : getB (setB fs s q) t = if t = s then some q else getB fs t := by
  by_cases ht : t = s
  · subst ht; rw [if_pos rfl, getB_set_same]
  · rw [if_neg ht, getB_set_other fs q ht]
def AlikeF (l fs : Fs) : Prop := Asc l ∧ UniqB fs ∧ ∀ s, getB l s = getB fs s
theorem AlikeF.app {l fs : Fs} (h : AlikeF l fs) {r : Raw} (hr : r.okAt fs) : AlikeF (r.appO l) (r.app fs) := by
  obtain ⟨h1, h2, h3⟩ := h
  cases r with
  | empty n =>
    obtain ⟨k1, k2⟩ := asc_set h1 n []
    exact ⟨k1, h2.set _ _, fun s => by show getB (setO l n []) s = getB (setB fs n []) s; rw [k2, getB_set, h3]⟩
  | behind n b =>
    obtain ⟨k1, k2⟩ := asc_set h1 n ((getB l n).getD [] ++ b)
    exact ⟨k1, h2.set _ _, fun s => by show getB (setO l n ((getB l n).getD [] ++ b)) s = getB (setB fs n ((getB fs n).getD [] ++ b)) s; rw [k2, getB_set, h3, h3]⟩
  | gone n =>
    have hf : fnd l n = true := by rw [← (asc_get h1 n).1, h3]; exact hr
    obtain ⟨k1, k2⟩ := asc_del h1 hf
    exact ⟨k1, h2.del _, fun s => by show getB (delO l n) s = getB (delB fs n) s; rw [k2, getB_del, h3]⟩
def OkH (h : List Raw) : Prop := ∀ (k : Nat) r, h[k]? = some r → r.okAt (runR (h.take k))
theorem OkH.nil : OkH [] := fun k r h => by simp at h
theorem OkH.take {h : List Raw} (hk : OkH h) (n : Nat) : OkH (h.take n) := fun k r hr => by
  have hl := (List.getElem?_eq_some_iff.1 hr).1
  rw [List.length_take] at hl
  rw [List.getElem?_take_of_lt (by omega)] at hr
  rw [List.take_take, Nat.min_eq_left (by omega)]
  exact hk k r hr
theorem alike_run : ∀ {h : List Raw}, OkH h → ∀ n, n ≤ h.length → AlikeF (runO (h.take n)) (runR (h.take n))
  | h, _, 0, _ => by
    rw [List.take_zero]
    exact ⟨List.Pairwise.nil, List.Pairwise.nil, fun s => rfl⟩
  | h, hk, n + 1, hn => by
    have ih := alike_run hk n (by omega)
    obtain ⟨r, hr⟩ : ∃ r, h[n]? = some r := ⟨_, List.getElem?_eq_getElem (by omega)⟩
    rw [List.take_add_one, hr, Option.toList_some, runO_snoc, runR_snoc]
    exact ih.app (hk n r hr)
theorem alike_all {h : List Raw} (hk : OkH h) : AlikeF (runO h) (runR h) := by
  have := alike_run hk h.length (Nat.le_refl _)
  rwa [List.take_length] at this
theorem OkH.snoc {h : List Raw} (hk : OkH h) {r : Raw} (hr : r.okAt (runR h)) : OkH (h ++ [r]) := fun k q hq => by
  by_cases hl : k < h.length
  · rw [List.getElem?_append_left hl] at hq
    rw [List.take_append_of_le_length (by omega)]
    exact hk k q hq
  · rw [List.getElem?_append_right (by omega)] at hq
    have h0 : k = h.length := by
      have := (List.getElem?_eq_some_iff.1 hq).1
      simp at this; omega
    subst h0
    rw [Nat.sub_self] at hq
    cases hq
    rw [List.take_left]
    exact hr
theorem OkH.pieces {h : List Raw} {s : ByteArray} : ∀ {ps : List Bs}, OkH h → (getB (runR h) s).isSome = true → OkH (h ++ ps.map (.behind s))
  | [], hk, _ => by rw [List.map_nil, List.append_nil]; exact hk
  | p :: ps, hk, hg => by
    have h1 := hk.snoc (r := .behind s p) hg
    have h2 := OkH.pieces (s := s) (ps := ps) h1 (by
      rw [runR_snoc]
      show (getB (setB _ s _) s).isSome = true
      rw [getB_set_same]; rfl)
    rw [List.map_cons]
    rwa [List.append_assoc, List.singleton_append] at h2
theorem alike_perm {l fs : Fs} (h : AlikeF l fs) : l.Perm fs := by
  obtain ⟨h1, h2, h3⟩ := h
  have hu : UniqB l := h1.imp (fun hab => ltS_ne hab)
  have mem : ∀ {l : Fs}, UniqB l → ∀ p, p ∈ l ↔ getB l p.1 = some p.2 := fun {l} hl p => by
    induction l with
    | nil => simp [getB]
    | cons a l ih =>
      obtain ⟨ha, hl'⟩ := List.pairwise_cons.1 hl
      rw [getB_cons, List.mem_cons]
      by_cases e : a.1 = p.1
      · rw [if_pos e]
        constructor
        · rintro (rfl | hm)
          · rfl
          · exact absurd e (ha p hm)
        · intro hq
          exact .inl (Prod.ext e.symm (Option.some.inj hq).symm)
      · rw [if_neg e, ← ih hl']
        constructor
        · rintro (rfl | hm)
          · exact absurd rfl e
          · exact hm
        · exact fun hm => .inr hm
  refine (List.perm_ext_iff_of_nodup (hu.imp (fun hab e => hab (by rw [e]))) (h2.imp (fun hab e => hab (by rw [e])))).2 fun p => ?_
  rw [mem hu, mem h2, h3]
end Go.Bd
namespace Go.Proofs.YtggnkpblfmjbcaaGreatDoor
open Go.RowKit Go.Bd Go.Maps
theorem alike_names {l fs : Fs} (h : AlikeF l fs) : namesB fs = l.map (fun p => p.1.data.toList) := by
  have hp := (alike_perm h).map (fun p => p.1.data.toList)
  unfold namesB
  rw [← mergeSort_of_perm hp]
  refine List.mergeSort_of_pairwise ?_
  rw [List.pairwise_map]
  exact h.1.imp (fun hab => by simp only [leB, decide_eq_true_eq]; exact List.le_of_lt hab)
theorem alike_used {l fs : Fs} (h : AlikeF l fs) : usedB l = usedB fs := by
  unfold usedB
  exact ((alike_perm h).map _).sum_nat
theorem OkH.write {h : List Raw} (hk : OkH h) (size : Nat) (s : ByteArray) (q : Bs) : OkH (h ++ rawsW (runR h) size s q) := by
  unfold rawsW
  split
  · have h1 := hk.snoc (r := .empty s) trivial
    have h2 := h1.pieces (s := s) (ps := chunksB q) (by
      rw [runR_snoc]
      show (getB (setB _ s _) s).isSome = true
      rw [getB_set_same]; rfl)
    rwa [List.append_assoc, List.singleton_append] at h2
  · rw [List.append_nil]; exact hk
theorem OkH.remove {h : List Raw} (hk : OkH h) (s : ByteArray) : OkH (h ++ rawsD (runR h) s) := by
  unfold rawsD
  split
  · rename_i he
    refine hk.snoc ?_
    unfold removeE at he
    show (getB (runR h) s).isSome = true
    by_cases hn : nameB s = true
    · rw [if_pos hn] at he
      by_cases hg : (getB (runR h) s).isSome = true
      · exact hg
      · rw [if_neg hg] at he; cases he
    · rw [if_neg hn] at he; cases he
  · rw [List.append_nil]; exact hk
end Go.Proofs.YtggnkpblfmjbcaaGreatDoor
namespace Go.Bd
open Go.RowKit
theorem run_append_nil {P : Program} {w : World} (base : Nat) (t ty e : TypeId) (i : TypeInfo) (size : Nat) (ht : P.underlying t = some (.slice e)) (hi : P.info? e = some i)
    (v : Value) (n : Nat) (xs : List Value) (hown : w.ownsRow base e size v n xs) (c : Nat) :
    (Builtin.append_ #[t, t] ty #[v, .slice none 0 c]).run P w = .ok v w := by
  rcases hown.2 with ⟨rfl, rfl⟩ | ⟨g, cap, cur, rfl, _, _, hnc, _⟩
  · simp [Builtin.append_, run_underlying ht, sizeOf, typeInfo, hi, Builtin.lenOf, Builtin.firstCells]
  · simp [Builtin.append_, run_underlying ht, sizeOf, typeInfo, hi, Builtin.lenOf, Builtin.firstCells, hnc, storeCells]
theorem run_append_all {P : Program} (w : World) (t ty : TypeId) (base : Nat) (e : TypeId) (i : TypeInfo) (z : Value) (size bytes : Nat) (ht : P.underlying t = some (.slice e)) (hi : P.info? e = some i) (hz : i.zero = some z)
    (hsize : i.size = size) (hby : i.bytes = bytes) (hzs : z.cells.size = size) (hsz : 0 < size)
    (v : Value) (n : Nat) (xs : List Value) (hown : w.ownsRow base e size v n xs)
    (A : Option Addr) (m c : Nat) (news : List Value) (hl : news.length = m * size) (hnews : ∀ j u, news[j]? = some u → ∃ ad, A = some ad ∧ w.cell? (ad.add j) = some u) (h1 : ∀ u ∈ news, u.oneCell' = true)
    (h63 : n + m ≤ maxLen) (hbytes : (n + m) * bytes ≤ 140737488355328) (hbase : base ≤ w.heap.size) :
    ∃ A' cap w', (Builtin.append_ #[t, t] ty #[v, .slice A m c]).run P w = .ok (.slice A' (n + m) cap) w' ∧
      w'.ownsRow base e size (.slice A' (n + m) cap) (n + m) (xs ++ news) ∧ w.grownBy w' v.ownBlock ∧ ∀ k, (Value.slice A' (n + m) cap).ownBlock = some k → v.ownBlock = some k ∨ k = w.heap.size := by
  have form : ∀ (v' : Value) (W : World) (q : Nat) (xs' : List Value), W.ownsRow base e size v' q xs' → ∃ A' cap, v' = .slice A' q cap := fun v' W q xs' h => by
    rcases h.2 with ⟨rfl, h0⟩ | ⟨g, cap, cur, rfl, _⟩
    · exact ⟨none, 0, by rw [h0]⟩
    · exact ⟨_, _, rfl⟩
  cases A with
  | some ad =>
    obtain ⟨v', w', hr, h2, h3, _, h5⟩ := run_append_own_at (P := P) w base t ty e i z size bytes ht hi hz hsize hby hzs hsz v n xs hown ad m c news hl (fun j u hj => by obtain ⟨_, e1, e2⟩ := hnews j u hj; cases e1; exact e2) h1 h63 hbytes hbase
    obtain ⟨A', cap, rfl⟩ := form _ _ _ _ h2
    refine ⟨A', cap, w', hr, h2, h3, fun k hk => ?_⟩
    rcases h5 with h5 | h5
    · exact .inl (h5 ▸ hk)
    · exact .inr (by rw [h5] at hk; cases hk; rfl)
  | none =>
    have hm : news = [] := by
      cases news with
      | nil => rfl
      | cons u r => obtain ⟨_, e1, _⟩ := hnews 0 u rfl; cases e1
    subst hm
    have hm0 : m = 0 := by
      rw [List.length_nil] at hl
      rcases Nat.mul_eq_zero.1 hl.symm with h | h <;> omega
    subst hm0
    obtain ⟨A', cap, rfl⟩ := form v w n xs hown
    exact ⟨A', cap, w, run_append_nil base t ty e i size ht hi _ n xs hown c, by rw [List.append_nil]; exact hown, World.grownBy.refl _ _, fun k hk => .inl hk⟩
theorem wpList_append_all {P : Program} {w : World} {ops : Array Oper} {rest : List Oper} {o : Oper} {a : Act} {Q : Exit → Act → World → Prop} (hgd : Region.wanted o (yielded ops a.tmps) = true) (s x : Operand) (t : TypeId)
    (ho : o.op = .call { callee := .builtin .append, args := #[s, x], argTypes := #[t, t] })
    (base : Nat) (e : TypeId) (i : TypeInfo) (z : Value) (size bytes : Nat) (ht : P.underlying t = some (.slice e)) (hi : P.info? e = some i) (hz : i.zero = some z)
    (hsize : i.size = size) (hby : i.bytes = bytes) (hzs : z.cells.size = size) (hsz : 0 < size)
    (v : Value) (n : Nat) (xs : List Value) (hs : a.eval s = v) (hown : w.ownsRow base e size v n xs)
    (A : Option Addr) (m c : Nat) (news : List Value) (hx : a.eval x = .slice A m c) (hl : news.length = m * size) (hnews : ∀ j u, news[j]? = some u → ∃ ad, A = some ad ∧ w.cell? (ad.add j) = some u) (h1 : ∀ u ∈ news, u.oneCell' = true)
    (q : Nat) (hq : n + m = q) (zs : List Value) (hzq : xs ++ news = zs) (h63 : q ≤ maxLen) (hbytes : q * bytes ≤ 140737488355328) (hbase : base ≤ w.heap.size)
    (h : ∀ A' cap w', w'.ownsRow base e size (.slice A' q cap) q zs → w.grownBy w' v.ownBlock → (∀ k, (Value.slice A' q cap).ownBlock = some k → v.ownBlock = some k ∨ k = w.heap.size) → wpList P ops Q rest (a.put o.dst (.slice A' q cap)) w') : wpList P ops Q (o :: rest) a w := by
  subst hq
  subst hzq
  refine wpList_step fun K hK => ?_
  rw [if_pos hgd]
  obtain ⟨A', cap, w', hr, h2, h3, h4⟩ := run_append_all (P := P) w t o.type base e i z size bytes ht hi hz hsize hby hzs hsz v n xs hown A m c news hl hnews h1 h63 hbytes hbase
  unfold Oper.wp execOp
  simp only [ho, resolve, invoke, builtin, Sem.run_bind, Sem.run_pure, Result.andThen_ok, List.map_toArray, List.map_cons, List.map_nil, hs, hx, hr]
  exact hK _ _ (h A' cap w' h2 h3 h4)
theorem own_cells {w : World} {base n sz c : Nat} {t : TypeId} {A : Option Addr} {xs : List Value} (h : w.ownsRow base t sz (.slice A n c) n xs) : ∀ j u, xs[j]? = some u → ∃ ad, A = some ad ∧ w.cell? (ad.add j) = some u := by
  intro j u hu
  rcases h.2 with ⟨e1, e2⟩ | ⟨g, cap, cur, e1, _⟩
  · have := h.1
    rw [e2, Nat.zero_mul] at this
    rw [List.length_eq_zero_iff.1 this] at hu
    simp at hu
  · injection e1 with e1 e2 e3
    subst e1
    exact ⟨_, rfl, h.cells (g := g) rfl j u hu⟩
theorem step_append_all {P : Program} {w : World} {ops : Array Oper} {o : Oper} {a : Act} {K : Act → World → Prop} {Q : Exit → Act → World → Prop} {E : Prop} (hgd : o.guard = none) (s x : Operand) (t : TypeId)
    (ho : o.op = .call { callee := .builtin .append, args := #[s, x], argTypes := #[t, t] })
    (base : Nat) (e : TypeId) (i : TypeInfo) (z : Value) (size bytes : Nat) (ht : P.underlying t = some (.slice e)) (hi : P.info? e = some i) (hz : i.zero = some z)
    (hsize : i.size = size) (hby : i.bytes = bytes) (hzs : z.cells.size = size) (hsz : 0 < size)
    (v : Value) (n : Nat) (xs : List Value) (hs : a.eval s = v) (hown : w.ownsRow base e size v n xs)
    (A : Option Addr) (m c : Nat) (news : List Value) (hx : a.eval x = .slice A m c) (hl : news.length = m * size) (hnews : ∀ j u, news[j]? = some u → ∃ ad, A = some ad ∧ w.cell? (ad.add j) = some u) (h1 : ∀ u ∈ news, u.oneCell' = true)
    (q : Nat) (hq : n + m = q) (zs : List Value) (hzq : xs ++ news = zs) (h63 : q ≤ maxLen) (hbytes : q * bytes ≤ 140737488355328) (hbase : base ≤ w.heap.size)
    (h : ∀ A' cap w', w'.ownsRow base e size (.slice A' q cap) q zs → w.grownBy w' v.ownBlock → (∀ k, (Value.slice A' q cap).ownBlock = some k → v.ownBlock = some k ∨ k = w.heap.size) → K (a.put o.dst (.slice A' q cap)) w') :
    if Region.wanted o (yielded ops a.tmps) = true then Oper.wp P o a w K Q else E := by
  subst hq
  subst hzq
  have hw : Region.wanted o (yielded ops a.tmps) = true := by simp [Region.wanted, hgd]
  rw [if_pos hw]
  obtain ⟨A', cap, w', hr, h2, h3, h4⟩ := run_append_all (P := P) w t o.type base e i z size bytes ht hi hz hsize hby hzs hsz v n xs hown A m c news hl hnews h1 h63 hbytes hbase
  unfold Oper.wp execOp
  simp only [ho, resolve, invoke, builtin, Sem.run_bind, Sem.run_pure, Result.andThen_ok, List.map_toArray, List.map_cons, List.map_nil, hs, hx, hr]
  exact h A' cap w' h2 h3 h4
end Go.Bd
namespace Go.Proofs.YtggnkpblfmjbcaaGreatDoor
open Go.RowKit Go.Bd
def tRD : TypeId := 74
def tRF : TypeId := 94
def tRW : TypeId := 92
def _root_.Go.Bd.Raw.k : Raw → Nat
  | .empty _ => 0
  | .behind _ _ => 1
  | .gone _ => 2
def _root_.Go.Bd.Raw.n : Raw → ByteArray
  | .empty n => n
  | .behind n _ => n
  | .gone n => n
def _root_.Go.Bd.Raw.b : Raw → Bs
  | .behind _ b => b
  | _ => []
def fileC (p : ByteArray × Bs) (v : Value) : List Value := [.string p.1, v]
def rawC (r : Raw) (v : Value) : List Value := [.int .i64 (r.k : Int), .string r.n, v]
def ByR (w : World) (F : Nat → Prop) (v : Value) (q : Bs) : Prop :=
  ∃ A c, v = .slice A q.length c ∧ q.length ≤ c ∧ (q ≠ [] → ∃ b off, A = some ⟨b, off, none⟩ ∧ F b ∧ ∀ (j : Nat) u, (u8L q)[j]? = some u → w.cell? ⟨b, off + j, none⟩ = some u)
theorem ByR.chg {w w' : World} {F G S : Nat → Prop} {v : Value} {q : Bs} (h : ByR w F v q) (hc : Chg w w' S) (hF : ∀ k, F k → G k) (hS : ∀ k, F k → ¬ S k) : ByR w' G v q := by
  obtain ⟨A, c, h1, h2, h3⟩ := h
  refine ⟨A, c, h1, h2, fun hn => ?_⟩
  obtain ⟨b, off, h4, h5, h6⟩ := h3 hn
  exact ⟨b, off, h4, hF b h5, fun j u hu => hc.cell (p := ⟨b, off + j, none⟩) (hS b h5) (h6 j u hu)⟩
theorem ByR.nil (w : World) (F : Nat → Prop) : ByR w F (.slice none 0 0) [] := ⟨none, 0, rfl, Nat.le_refl _, fun h => absurd rfl h⟩
theorem addr_addN (g k j : Nat) : (⟨g, k, none⟩ : Addr).add j = ⟨g, k + j, none⟩ := by unfold Addr.add; split <;> simp_all
theorem ByR.news {w : World} {F : Nat → Prop} {A : Option Addr} {n c : Nat} {q : Bs} (h : ByR w F (.slice A n c) q) : ∀ j u, (u8L q)[j]? = some u → ∃ ad, A = some ad ∧ w.cell? (ad.add j) = some u := fun j u hu => by
  obtain ⟨A', c', h1, h2, h3⟩ := h
  injection h1 with e1 e2 e3
  subst e1
  obtain ⟨b, off, h4, _, h6⟩ := h3 (fun e => by rw [e] at hu; simp [u8L] at hu)
  exact ⟨_, h4, by rw [addr_addN]; exact h6 j u hu⟩
theorem ByR.own {w : World} {B : Nat} {t : TypeId} {v : Value} {q : Bs} (h : w.ownsRow B t 1 v q.length (u8L q)) : ByR w (fun k => B ≤ k ∧ k < w.heap.size) v q := by
  rcases h.2 with ⟨h1, h2⟩ | ⟨g, cap, cur, rfl, h2, h3, h4, _⟩
  · have e : q = [] := List.length_eq_zero_iff.1 h2
    subst e
    exact ⟨none, 0, h1, Nat.le_refl _, fun hn => absurd rfl hn⟩
  · refine ⟨_, cap, rfl, h4, fun _ => ⟨g, 0, rfl, ⟨h2, (Array.getElem?_eq_some_iff.1 h3).1⟩, fun j u hu => ?_⟩⟩
    have h5 := h.cells (g := g) rfl j u hu
    rw [addr_addN] at h5
    exact h5
def rowC {α : Type} (C : α → Value → List Value) : List α → List Value → List Value
  | x :: l, v :: vs => C x v ++ rowC C l vs
  | _, _ => []
section
variable {α : Type} {C : α → Value → List Value} {d : Nat} (hC : ∀ x v, (C x v).length = d)
include hC
theorem rowC_length : ∀ {l : List α} {vs : List Value}, vs.length = l.length → (rowC C l vs).length = l.length * d
  | [], _, _ => by simp [rowC]
  | x :: l, [], h => by simp at h
  | x :: l, v :: vs, h => by rw [rowC, List.length_append, hC, rowC_length (l := l) (vs := vs) (by simpa using h), List.length_cons, Nat.succ_mul]; omega
omit hC in
theorem rowC_append : ∀ {a : List α} {va : List Value} (b : List α) (vb : List Value), va.length = a.length → rowC C (a ++ b) (va ++ vb) = rowC C a va ++ rowC C b vb
  | [], [], b, vb, _ => rfl
  | [], _ :: _, _, _, h => by simp at h
  | x :: a, [], _, _, h => by simp at h
  | x :: a, v :: va, b, vb, h => by
    simp only [List.cons_append, rowC, List.append_assoc]
    rw [rowC_append b vb (by simpa using h)]
theorem rowC_get : ∀ {l : List α} {vs : List Value} {j : Nat} {x : α} {v : Value} {i : Nat} {u : Value}, l[j]? = some x → vs[j]? = some v → (C x v)[i]? = some u → (rowC C l vs)[j * d + i]? = some u
  | [], _, j, _, _, _, _, h, _, _ => by simp at h
  | _ :: _, [], j, _, _, _, _, _, h, _ => by simp at h
  | y :: l, w :: vs, 0, x, v, i, u, h1, h2, h3 => by
    simp at h1 h2
    subst h1; subst h2
    rw [rowC, Nat.zero_mul, Nat.zero_add, List.getElem?_append_left (List.getElem?_eq_some_iff.1 h3).1]
    exact h3
  | y :: l, w :: vs, j + 1, x, v, i, u, h1, h2, h3 => by
    simp at h1 h2
    have ih := rowC_get (l := l) (vs := vs) h1 h2 h3
    have hl := hC y w
    rw [rowC, List.getElem?_append_right (by rw [hl, Nat.succ_mul]; omega), hl]
    rw [show (j + 1) * d + i - d = j * d + i by rw [Nat.succ_mul]; omega]
    exact ih
end
def RowBy {α : Type} (C : α → Value → List Value) (Bq : α → Bs) (t : TypeId) (d : Nat) (w : World) (F : Nat → Prop) (v : Value) (l : List α) : Prop :=
  ∃ vs : List Value, vs.length = l.length ∧ w.ownsRow 0 t d v l.length (rowC C l vs) ∧ ∀ (j : Nat) x u, l[j]? = some x → vs[j]? = some u → ByR w F u (Bq x)
section
variable {α : Type} {C : α → Value → List Value} {Bq : α → Bs} {t : TypeId} {d : Nat} {w w' : World} {F G S : Nat → Prop} {v : Value} {l : List α}
theorem RowBy.chg (h : RowBy C Bq t d w F v l) (hc : Chg w w' S) (hF : ∀ k, F k → G k) (hS : ∀ k, F k → ¬ S k) (hv : ∀ k, v.ownBlock = some k → ¬ S k) : RowBy C Bq t d w' G v l := by
  obtain ⟨vs, h1, h2, h3⟩ := h
  exact ⟨vs, h1, hc.owns h2 hv, fun j x u hx hu => (h3 j x u hx hu).chg hc hF hS⟩
theorem RowBy.nil : RowBy C Bq t d w F (.slice none 0 0) [] := ⟨[], rfl, World.ownsRow_nil _ _ _ _, fun j x u h => by simp at h⟩
theorem RowBy.form (h : RowBy C Bq t d w F v l) : (v = .slice none 0 0 ∧ l = []) ∨ ∃ g c, v = .slice (some ⟨g, 0, none⟩) l.length c ∧ l.length ≤ c ∧ c ≤ maxLen ∧ g < w.heap.size := by
  obtain ⟨vs, h1, h2, h3⟩ := h
  rcases h2.2 with ⟨e1, e2⟩ | ⟨g, cap, cur, e1, _, e3, e4, e5, _⟩
  · exact .inl ⟨e1, List.length_eq_zero_iff.1 e2⟩
  · exact .inr ⟨g, cap, e1, e4, e5, (Array.getElem?_eq_some_iff.1 e3).1⟩
theorem RowBy.at (hC : ∀ x v, (C x v).length = d) {A : Option Addr} {n c : Nat} (h : RowBy C Bq t d w F (.slice A n c) l) {j : Nat} {x : α} (hx : l[j]? = some x) :
    ∃ g u, A = some ⟨g, 0, none⟩ ∧ ByR w F u (Bq x) ∧ ∀ (i : Nat) y, (C x u)[i]? = some y → w.cell? ⟨g, j * d + i, none⟩ = some y := by
  obtain ⟨vs, h1, h2, h3⟩ := h
  have hj := (List.getElem?_eq_some_iff.1 hx).1
  obtain ⟨u, hu⟩ : ∃ u, vs[j]? = some u := ⟨_, List.getElem?_eq_getElem (by omega)⟩
  rcases h2.2 with ⟨e1, e2⟩ | ⟨g, cap, cur, e1, _⟩
  · omega
  injection e1 with e1 e2 e3
  subst e1
  refine ⟨g, u, rfl, h3 j x u hx hu, fun i y hy => ?_⟩
  have h5 := h2.cells (g := g) rfl _ y (rowC_get hC hx hu hy)
  rw [addr_addN, Nat.zero_add] at h5
  exact h5
theorem rowC_one (hone : ∀ x u q, ByR w F u q → ∀ y ∈ C x u, y.oneCell' = true) : ∀ {l : List α} {vs : List Value}, (∀ (j : Nat) x u, l[j]? = some x → vs[j]? = some u → ByR w F u (Bq x)) → ∀ y ∈ rowC C l vs, y.oneCell' = true
  | [], _, _, y, h => by simp [rowC] at h
  | _ :: _, [], _, y, h => by simp [rowC] at h
  | x :: l, u :: vs, hT, y, h => by
    rw [rowC] at h
    rcases List.mem_append.1 h with h | h
    · exact hone x u _ (hT 0 x u rfl rfl) y h
    · exact rowC_one hone (fun j x' u' h1 h2 => hT (j + 1) x' u' (by simpa using h1) (by simpa using h2)) y h
end
theorem fileC_len (x : ByteArray × Bs) (v : Value) : (fileC x v).length = 2 := rfl
theorem rawC_len (x : Raw) (v : Value) : (rawC x v).length = 3 := rfl
theorem fileC_one {w : World} {F : Nat → Prop} (x : ByteArray × Bs) (u : Value) (q : Bs) (h : ByR w F u q) : ∀ y ∈ fileC x u, y.oneCell' = true := by
  obtain ⟨A, c, rfl, _⟩ := h
  intro y hy
  simp only [fileC, List.mem_cons, List.not_mem_nil, or_false] at hy
  rcases hy with rfl | rfl <;> rfl
abbrev Files (w : World) (F : Nat → Prop) (v : Value) (l : Fs) : Prop := RowBy fileC (fun p : ByteArray × Bs => p.2) tRF 2 w F v l
abbrev Raws (w : World) (F : Nat → Prop) (v : Value) (h : List Raw) : Prop := RowBy rawC Raw.b tRW 3 w F v h
structure RDs (w : World) (O F : Nat → Prop) (db size : Nat) (lv : Value) (l : Fs) (rv : Value) (h : List Raw) : Prop where
  hold : Holds w db tRD #[.int .i64 (size : Int), lv, rv]
  fl : Files w F lv l
  rw : Raws w F rv h
  oD : O db
  oL : ∀ k, lv.ownBlock = some k → O k ∧ k ≠ db
  oR : ∀ k, rv.ownBlock = some k → O k ∧ k ≠ db ∧ lv.ownBlock ≠ some k
  off : ∀ k, F k → ¬ O k
  ltO : ∀ k, O k → k < w.heap.size
  ltF : ∀ k, F k → k < w.heap.size
structure TurnD (w w' : World) (O F O' F' : Nat → Prop) : Prop where
  chg : Chg w w' O
  inO : ∀ k, O' k → O k ∨ w.heap.size ≤ k
  inF : ∀ k, F' k → F k ∨ w.heap.size ≤ k
  moF : ∀ k, F k → F' k
theorem TurnD.refl (w : World) (O F : Nat → Prop) : TurnD w w O F O F := ⟨Chg.refl _ _, fun _ h => .inl h, fun _ h => .inl h, fun _ h => h⟩
theorem TurnD.trans {w w1 w2 : World} {O F O1 F1 O2 F2 : Nat → Prop} (h : TurnD w w1 O F O1 F1) (k : TurnD w1 w2 O1 F1 O2 F2) : TurnD w w2 O F O2 F2 := by
  have hs := h.chg.size
  refine ⟨h.chg.trans k.chg (fun b hb hO => ?_), fun b hb => ?_, fun b hb => ?_, fun b hb => k.moF b (h.moF b hb)⟩
  · rcases h.inO b hO with h1 | h1
    · exact h1
    · omega
  · rcases k.inO b hb with h1 | h1
    · exact h.inO b h1
    · exact .inr (by omega)
  · rcases k.inF b hb with h1 | h1
    · exact h.inF b h1
    · exact .inr (by omega)
theorem TurnD.below {w w' : World} {O F : Nat → Prop} (hb : Below w.heap.size w w') : TurnD w w' O F O F := ⟨Chg.below hb O, fun _ h => .inl h, fun _ h => .inl h, fun _ h => h⟩
section
variable {w w' : World} {O F O' F' S : Nat → Prop} {db size : Nat} {lv rv lv' rv' : Value} {l l' : Fs} {h h' : List Raw}
theorem RDs.chg (H : RDs w O F db size lv l rv h) (hc : Chg w w' S) (hO : ∀ k, O k → ¬ S k) (hF : ∀ k, F k → ¬ S k) : RDs w' O F db size lv l rv h :=
  ⟨hc.holds (hO _ H.oD) H.hold, H.fl.chg hc (fun _ h => h) hF (fun k hk => hO k (H.oL k hk).1), H.rw.chg hc (fun _ h => h) hF (fun k hk => hO k (H.oR k hk).1), H.oD, H.oL, H.oR, H.off, fun k hk => Nat.lt_of_lt_of_le (H.ltO k hk) hc.size, fun k hk => Nat.lt_of_lt_of_le (H.ltF k hk) hc.size⟩
theorem RDs.below (H : RDs w O F db size lv l rv h) (hb : Below w.heap.size w w') : RDs w' O F db size lv l rv h := H.chg (Chg.below hb (fun _ => False)) (fun _ _ h => h) (fun _ _ h => h)
theorem RDs.more (H : RDs w O F db size lv l rv h) (hF : ∀ k, F k → F' k) (ho : ∀ k, F' k → ¬ O k) (hl : ∀ k, F' k → k < w.heap.size) : RDs w O F' db size lv l rv h :=
  ⟨H.hold, H.fl.chg (Chg.refl w (fun _ => False)) hF (fun _ _ h => h) (fun _ _ h => h), H.rw.chg (Chg.refl w (fun _ => False)) hF (fun _ _ h => h) (fun _ _ h => h), H.oD, H.oL, H.oR, ho, H.ltO, hl⟩
theorem RDs.files (H : RDs w O F db size lv l rv h) (hc : Chg w w' (fun k => k = db ∨ lv.ownBlock = some k)) (hh : Holds w' db tRD #[.int .i64 (size : Int), lv', rv]) (hf : Files w' F' lv' l') (hF : ∀ k, F k → F' k) (hF2 : ∀ k, F' k → F k ∨ w.heap.size ≤ k) (hFl : ∀ k, F' k → k < w'.heap.size)
    (hn : ∀ k, lv'.ownBlock = some k → (lv.ownBlock = some k ∨ w.heap.size ≤ k ∧ ¬ F' k) ∧ k < w'.heap.size) : RDs w' (fun k => O k ∨ lv'.ownBlock = some k) F' db size lv' l' rv h ∧ TurnD w w' O F (fun k => O k ∨ lv'.ownBlock = some k) F' := by
  have hS : ∀ k, (k = db ∨ lv.ownBlock = some k) → O k := fun k hk => by
    rcases hk with rfl | hk
    · exact H.oD
    · exact (H.oL k hk).1
  have hdb := H.ltO db H.oD
  refine ⟨⟨hh, hf, H.rw.chg hc hF (fun k hk hs => H.off k hk (hS k hs)) (fun k hk hs => ?_), .inl H.oD, fun k hk => ⟨.inr hk, ?_⟩, fun k hk => ⟨.inl (H.oR k hk).1, (H.oR k hk).2.1, fun e => ?_⟩, fun k hk hs => ?_, fun k hk => ?_, hFl⟩,
    ⟨hc.mono (fun k _ hk => hS k hk), fun k hk => ?_, hF2, hF⟩⟩
  · rcases hs with hs | hs
    · exact (H.oR k hk).2.1 hs
    · exact (H.oR k hk).2.2 hs
  · rcases (hn k hk).1 with h4 | h4
    · exact (H.oL k h4).2
    · intro e; omega
  · rcases (hn k e).1 with h4 | h4
    · exact (H.oR k hk).2.2 h4
    · have := H.ltO k (H.oR k hk).1; omega
  · rcases hs with hs | hs
    · rcases hF2 k hk with h4 | h4
      · exact H.off k h4 hs
      · have := H.ltO k hs; omega
    · rcases (hn k hs).1 with h4 | h4
      · rcases hF2 k hk with h5 | h5
        · exact H.off k h5 (H.oL k h4).1
        · have := H.ltO k (H.oL k h4).1; omega
      · exact h4.2 hk
  · rcases hk with hk | hk
    · exact Nat.lt_of_lt_of_le (H.ltO k hk) hc.size
    · exact (hn k hk).2
  · rcases hk with hk | hk
    · exact .inl hk
    · rcases (hn k hk).1 with h4 | h4
      · exact .inl (H.oL k h4).1
      · exact .inr h4.1
theorem RDs.raws (H : RDs w O F db size lv l rv h) (hc : Chg w w' (fun k => k = db ∨ rv.ownBlock = some k)) (hh : Holds w' db tRD #[.int .i64 (size : Int), lv, rv']) (hr : Raws w' F rv' h')
    (hn : ∀ k, rv'.ownBlock = some k → (rv.ownBlock = some k ∨ w.heap.size ≤ k) ∧ k < w'.heap.size) : RDs w' (fun k => O k ∨ rv'.ownBlock = some k) F db size lv l rv' h' ∧ TurnD w w' O F (fun k => O k ∨ rv'.ownBlock = some k) F := by
  have hS : ∀ k, (k = db ∨ rv.ownBlock = some k) → O k := fun k hk => by
    rcases hk with rfl | hk
    · exact H.oD
    · exact (H.oR k hk).1
  have hdb := H.ltO db H.oD
  refine ⟨⟨hh, H.fl.chg hc (fun _ h => h) (fun k hk hs => H.off k hk (hS k hs)) (fun k hk hs => ?_), hr, .inl H.oD, fun k hk => ⟨.inl (H.oL k hk).1, (H.oL k hk).2⟩, fun k hk => ⟨.inr hk, ?_, fun e => ?_⟩, fun k hk hs => ?_, fun k hk => ?_, fun k hk => Nat.lt_of_lt_of_le (H.ltF k hk) hc.size⟩,
    ⟨hc.mono (fun k _ hk => hS k hk), fun k hk => ?_, fun k hk => .inl hk, fun k hk => hk⟩⟩
  · rcases hs with hs | hs
    · exact (H.oL k hk).2 hs
    · exact (H.oR k hs).2.2 hk
  · rcases (hn k hk).1 with h4 | h4
    · exact (H.oR k h4).2.1
    · intro e; omega
  · rcases (hn k hk).1 with h4 | h4
    · exact (H.oR k h4).2.2 e
    · have := H.ltO k (H.oL k e).1; omega
  · rcases hs with hs | hs
    · exact H.off k hk hs
    · rcases (hn k hs).1 with h4 | h4
      · exact H.off k hk (H.oR k h4).1
      · have := H.ltF k hk; omega
  · rcases hk with hk | hk
    · exact Nat.lt_of_lt_of_le (H.ltO k hk) hc.size
    · exact (hn k hk).2
  · rcases hk with hk | hk
    · exact .inl hk
    · rcases (hn k hk).1 with h4 | h4
      · exact .inl (H.oR k h4).1
      · exact .inr h4
end
end Go.Proofs.YtggnkpblfmjbcaaGreatDoor
namespace Go.Bd
theorem plc_at {l : Fs} {s : ByteArray} : ∀ {k : Nat} {p : ByteArray × Bs}, l[k]? = some p → (∀ (j : Nat) q, j < k → l[j]? = some q → ltS q.1 s) → ¬ ltS p.1 s → plc l s = k := by
  induction l with
  | nil => intro k p h; simp at h
  | cons a l ih =>
    intro k p h hj hp
    unfold plc at ih ⊢
    cases k with
    | zero =>
      simp at h
      subst h
      rw [List.takeWhile_cons, if_neg (by simpa using hp)]
      rfl
    | succ k =>
      rw [List.takeWhile_cons, if_pos (by simpa using hj 0 a (by omega) rfl), List.length_cons, ih (k := k) (by simpa using h) (fun j q hjk hq => hj (j + 1) q (by omega) (by simpa using hq)) hp]
theorem plc_end {l : Fs} {s : ByteArray} (h : ∀ p ∈ l, ltS p.1 s) : plc l s = l.length := by
  unfold plc
  have e : l.takeWhile (fun p => decide (ltS p.1 s)) = l := by
    induction l with
    | nil => rfl
    | cons a l ih => rw [List.takeWhile_cons, if_pos (by simpa using h a (List.mem_cons_self ..)), ih (fun p hp => h p (List.mem_cons_of_mem _ hp))]
  rw [e]
theorem fnd_at {l : Fs} {s : ByteArray} {p : ByteArray × Bs} (h : l[plc l s]? = some p) : fnd l s = decide (p.1 = s) := by
  unfold fnd
  rw [h]
theorem fnd_end {l : Fs} {s : ByteArray} (h : plc l s = l.length) : fnd l s = false := by
  unfold fnd
  rw [h, List.getElem?_eq_none (Nat.le_refl _)]
end Go.Bd
namespace Go.Proofs.YtggnkpblfmjbcaaGreatDoor
open Go.RowKit Go.Bd
theorem nameB_long {s : ByteArray} (h : ¬ (1 ≤ s.size ∧ s.size ≤ 80)) : nameB s = false := decide_eq_false fun e => h ⟨e.1, e.2.1⟩
set_option maxRecDepth 100000 in
set_option maxHeartbeats 2000000 in
theorem rname_any (s : ByteArray) (w : World) (hs : s.size ≤ 140737488355328) :
    Calls Tryz.prog 39 #[.string s] w fun e w' => e = .returned (.bool (nameB s)) ∧ w' = w := by
  go_enter Tryz.func39, Tryz.ntmps39
  go_wp2
  go_loopg [3, 4] s.size (fun q v v4 wr => ∃ k : Nat, k + q = s.size ∧ v = .int .i64 (k : Int) ∧ Hid (∀ j (hj : j < s.size), j < k → okC s[j].toNat) ∧ wr = w)
  case atStart => exact ⟨0, by omega, rfl, fun _ _ h => absurd h (by omega), rfl⟩
  case round =>
    obtain ⟨k, hk, rfl, H, rfl⟩ := hrel
    by_cases hlt : k < s.size
    · by_cases hok : okC s[k].toNat
      · have HN : Hid (∀ j (hj : j < s.size), j < k + 1 → okC s[j].toNat) := fun j hj hjk => by
          by_cases e : j = k
          · subst e; exact hok
          · exact H.out j hj (by omega)
        clear H
        rcases hok with h | h | h | h | h
        all_goals
          go_wp2
          all_goals
            go_roundg (gk - 1)
            case measure => omega
            case rel => exact ⟨k + 1, by omega, by go_num, HN.out, rfl⟩
      · have hf := nameB_false hlt hok
        have HF := Lib.hid hf
        unfold okC at hok
        have n1 : ¬ (97 ≤ s[k].toNat ∧ s[k].toNat ≤ 122) := fun h => hok (.inl h)
        have n2 : ¬ (65 ≤ s[k].toNat ∧ s[k].toNat ≤ 90) := fun h => hok (.inr (.inl h))
        have n3 : ¬ (48 ≤ s[k].toNat ∧ s[k].toNat ≤ 57) := fun h => hok (.inr (.inr (.inl h)))
        have n4 : ¬ s[k].toNat = 45 := fun h => hok (.inr (.inr (.inr (.inl h))))
        have n5 : ¬ s[k].toNat = 46 := fun h => hok (.inr (.inr (.inr (.inr h))))
        have hr : s[k].toNat ≤ 44 ∨ s[k].toNat = 47 ∨ (58 ≤ s[k].toNat ∧ s[k].toNat ≤ 64) ∨ (91 ≤ s[k].toNat ∧ s[k].toNat ≤ 96) ∨ 123 ≤ s[k].toNat := by omega
        clear hok hf H n1 n2 n3 n4 n5
        rcases hr with hr | hr | hr | hr | hr
        all_goals
          go_wp2
          all_goals
            first
            | (go_ret; exact ⟨by rw [HF.out]; rfl, rfl⟩)
            | (exfalso; simp only [Bool.not_eq_eq_eq_not, Bool.not_false, Bool.not_true, beq_iff_eq, decide_eq_true_eq] at *; omega)
    · obtain rfl : k = s.size := by omega
      by_cases h0 : 1 ≤ s.size ∧ s.size ≤ 80
      · have hf := nameB_true h0.1 h0.2 (fun j hj => H.out j hj hj)
        have HF := Lib.hid hf
        obtain ⟨h1, h2⟩ := h0
        have d1 : decide ((1 : Int) ≤ (s.size : Int)) = true := decide_eq_true (by omega)
        have d2 : decide ((s.size : Int) ≤ 80) = true := decide_eq_true (by omega)
        clear hf H
        go_wp2
        go_ret
        exact ⟨by rw [HF.out]; first | rfl | simp <;> omega, rfl⟩
      · have hf := nameB_long h0
        have HF := Lib.hid hf
        clear hf H
        by_cases h1 : 1 ≤ s.size
        · have d1 : decide ((1 : Int) ≤ (s.size : Int)) = true := decide_eq_true (by omega)
          have d2 : decide ((s.size : Int) ≤ 80) = false := decide_eq_false (by omega)
          clear h0
          go_wp2
          go_ret
          exact ⟨by rw [HF.out]; first | rfl | simp <;> omega, rfl⟩
        · have d1 : decide ((1 : Int) ≤ (s.size : Int)) = false := decide_eq_false (by omega)
          clear h0
          go_wp2
          go_ret
          exact ⟨by rw [HF.out]; first | rfl | simp <;> omega, rfl⟩
theorem less_of {a b : ByteArray} (h : ltS a b) : Op.bytesLess a.toList b.toList = true := by
  rw [bytesLess_eq, ByteArray.toList_eq, ByteArray.toList_eq]
  exact decide_eq_true h
theorem less_not {a b : ByteArray} (h : ¬ ltS a b) : Op.bytesLess a.toList b.toList = false := by
  rw [bytesLess_eq, ByteArray.toList_eq, ByteArray.toList_eq]
  exact decide_eq_false h
set_option maxRecDepth 100000 in
set_option maxHeartbeats 2000000 in
theorem place_any {w : World} {O F : Nat → Prop} {db size : Nat} {lv rv : Value} {l : Fs} {h : List Raw} (H : RDs w O F db size lv l rv h) (s : ByteArray) (hs : s.size ≤ 140737488355328) (hl : l.length ≤ 1000000) (hn : ∀ p ∈ l, p.1.size ≤ 80) :
    Calls Tryz.prog 40 #[.pointer (some ⟨db, 0, none⟩), .string s] w fun e w' => e = .returned (.tuple #[.int .i64 (plc l s : Int), .bool (fnd l s)]) ∧ Below w.heap.size w w' := by
  obtain ⟨A, c, rfl, hcl⟩ : ∃ A c, lv = .slice A l.length c ∧ l.length ≤ c := by
    rcases H.fl.form with ⟨h1, h2⟩ | ⟨g, c, h1, h2, _⟩
    · exact ⟨none, 0, by rw [h1, h2]; rfl, by rw [h2]; exact Nat.le_refl _⟩
    · exact ⟨_, _, h1, h2⟩
  have p1 := H.hold.cell 1
  simp at p1
  have hdb := H.hold.lt
  obtain ⟨n, hnl⟩ : ∃ n, l.length = n := ⟨_, rfl⟩
  have HI := Lib.hid (And.intro H (And.intro hn hnl))
  rw [hnl] at p1 hl hcl
  clear H hn hnl
  go_enter Tryz.func40, Tryz.ntmps40
  go_wp2
  go_loopg [6] n (fun q v wr => ∃ k : Nat, k + q = n ∧ v = .int .i64 (k : Int) ∧ Hid (∀ (j : Nat) p, j < k → l[j]? = some p → ltS p.1 s) ∧ wr = w)
  case atStart => exact ⟨0, by omega, rfl, fun _ _ h => absurd h (by omega), rfl⟩
  case round =>
    obtain ⟨k, hk, rfl, HJ, rfl⟩ := hrel
    by_cases hlt : k < n
    · obtain ⟨p, hp⟩ : ∃ p, l[k]? = some p := ⟨_, List.getElem?_eq_getElem (by have := HI.out.2.2; omega)⟩
      obtain ⟨g, u, rfl, hby, hcs⟩ := HI.out.1.fl.at fileC_len hp
      have c0 := hcs 0 (.string p.1) rfl
      have hp80 := HI.out.2.1 p (List.mem_of_getElem? hp)
      rw [Nat.add_zero] at c0
      have HP := Lib.hid hp
      clear hcs hby hp
      by_cases hlt2 : ltS p.1 s
      · have d1 := less_of hlt2
        have HL := Lib.hid hlt2
        clear hlt2
        go_wp2
        go_roundg (gk - 1)
        case measure => omega
        case rel => exact ⟨k + 1, by omega, by go_num, fun j q hj hq => by
          by_cases hjk : j < k
          · exact HJ.out j q hjk hq
          · obtain rfl : j = k := by omega
            have := HP.out.symm.trans hq
            cases this
            exact HL.out, rfl⟩
      · have d1 := less_not hlt2
        have hpl := plc_at HP.out HJ.out hlt2
        have hfn := fnd_at (s := s) (p := p) (l := l) (by rw [hpl]; exact HP.out)
        have HPL := Lib.hid (And.intro hpl hfn)
        clear hlt2 hpl hfn
        by_cases he : p.1 = s
        · have d2 : (p.1.toList == s.toList) = true := by rw [he]; simp
          have HE := Lib.hid he
          clear he
          go_wp2
          go_quiet (fail)
          go_wp2
          all_goals
            go_ret2
            refine ⟨?_, Go.below_drewN (Below.refl _ _) _⟩
            rw [HPL.out.1, HPL.out.2, decide_eq_true HE.out]
            rfl
        · have d2 : (p.1.toList == s.toList) = false := by
            rw [ByteArray.toList_eq, ByteArray.toList_eq]
            exact beq_eq_false_iff_ne.2 (fun e => he (ba_eq e))
          have HE := Lib.hid he
          clear he
          go_wp2
          go_quiet (fail)
          go_wp2
          all_goals
            go_ret2
            refine ⟨?_, Go.below_drewN (Below.refl _ _) _⟩
            rw [HPL.out.1, HPL.out.2, decide_eq_false HE.out]
            rfl
    · obtain rfl : k = n := by omega
      have hpl : plc l s = k := by
        rw [plc_end (fun p hp => ?_), HI.out.2.2]
        obtain ⟨j, hj, e⟩ := List.getElem_of_mem hp
        exact HJ.out j p (by have := HI.out.2.2; omega) (by rw [List.getElem?_eq_getElem hj, e])
      have hfn := fnd_end (l := l) (s := s) (by rw [hpl, HI.out.2.2])
      have HPL := Lib.hid (And.intro hpl hfn)
      clear hpl hfn
      go_wp2
      go_ret2
      refine ⟨?_, Below.refl _ _⟩
      rw [HPL.out.1, HPL.out.2]
      rfl
end Go.Proofs.YtggnkpblfmjbcaaGreatDoor
namespace Go.Bd
open Go.Proofs.YtggnkpblfmjbcaaGreatDoor
def wtR (h : List Raw) : Nat := (h.map (fun r => r.b.length)).sum
structure Fit (h : List Raw) : Prop where
  ok : OkH h
  n80 : ∀ r ∈ h, r.n.size ≤ 80
  few : h.length ≤ 900000
  wt : wtR h ≤ 100000000
theorem wtR_append (a b : List Raw) : wtR (a ++ b) = wtR a + wtR b := by unfold wtR; rw [List.map_append, List.sum_append]
theorem wtR_take (h : List Raw) (n : Nat) : wtR (h.take n) ≤ wtR h := by
  have e : wtR h = wtR (h.take n) + wtR (h.drop n) := by rw [← wtR_append, List.take_append_drop]
  omega
theorem Fit.nil : Fit [] := ⟨OkH.nil, fun r h => (List.not_mem_nil h).elim, by simp, by simp [wtR]⟩
theorem Fit.take {h : List Raw} (H : Fit h) (n : Nat) : Fit (h.take n) :=
  ⟨H.ok.take n, fun r hr => H.n80 r (List.mem_of_mem_take hr), by have := H.few; rw [List.length_take]; omega, Nat.le_trans (wtR_take h n) H.wt⟩
theorem runR_names : ∀ (h : List Raw) (fs : Fs), (∀ p ∈ fs, p.1.size ≤ 80) → (∀ r ∈ h, r.n.size ≤ 80) → ∀ p ∈ h.foldl (fun fs r => r.app fs) fs, p.1.size ≤ 80
  | [], fs, h1, _ => h1
  | r :: h, fs, h1, h2 => by
    refine runR_names h _ (fun p hp => ?_) (fun r hr => h2 r (List.mem_cons_of_mem _ hr))
    have hd : ∀ s, ∀ p ∈ delB fs s, p.1.size ≤ 80 := fun s p hp => h1 p (List.mem_filter.1 hp).1
    have hr := h2 r (List.mem_cons_self ..)
    cases r with
    | empty n =>
      simp only [Raw.app, setB, List.mem_append, List.mem_singleton] at hp
      rcases hp with hp | rfl
      · exact hd _ p hp
      · exact hr
    | behind n b =>
      simp only [Raw.app, setB, List.mem_append, List.mem_singleton] at hp
      rcases hp with hp | rfl
      · exact hd _ p hp
      · exact hr
    | gone n => exact hd _ p hp
theorem runR_wt : ∀ (h : List Raw) (fs : Fs), UniqB fs → usedB (h.foldl (fun fs r => r.app fs) fs) ≤ usedB fs + wtR h
  | [], fs, _ => by simp [wtR]
  | r :: h, fs, hu => by
    have ih := runR_wt h (r.app fs) (uniq_app r hu)
    have e : wtR (r :: h) = r.b.length + wtR h := by simp [wtR]
    have hs : usedB (r.app fs) ≤ usedB fs + r.b.length := by
      cases r with
      | empty n =>
        have := used_set hu n []
        simp only [Raw.app, Raw.b, List.length_nil] at *
        omega
      | behind n b =>
        have := used_set hu n ((getB fs n).getD [] ++ b)
        simp only [Raw.app, Raw.b, List.length_append] at *
        omega
      | gone n =>
        have := used_del hu n
        simp only [Raw.app, Raw.b, List.length_nil] at *
        omega
    rw [List.foldl_cons, e]
    omega
theorem used_mem {l : Fs} {p : ByteArray × Bs} (h : p ∈ l) : p.2.length ≤ usedB l := by
  unfold usedB
  induction l with
  | nil => simp at h
  | cons a l ih =>
    rw [List.map_cons, List.sum_cons]
    rcases List.mem_cons.1 h with rfl | h1
    · omega
    · have := ih h1; omega
theorem Fit.run {h : List Raw} (H : Fit h) : Asc (runO h) ∧ (runO h).length ≤ h.length ∧ (∀ p ∈ runO h, p.1.size ≤ 80) ∧ usedB (runO h) ≤ wtR h ∧ (∀ p ∈ runO h, p.2.length ≤ wtR h) := by
  have ha := alike_all H.ok
  have hp := alike_perm ha
  have hu : usedB (runO h) ≤ wtR h := by
    rw [alike_used ha]
    have := runR_wt h [] List.Pairwise.nil
    unfold runR; simpa [usedB] using this
  refine ⟨ha.1, ?_, fun p hm => ?_, hu, fun p hm => Nat.le_trans (used_mem hm) hu⟩
  · rw [hp.length_eq]; exact runR_len h
  · exact runR_names h [] (fun p hp => (List.not_mem_nil hp).elim) H.n80 p (hp.mem_iff.1 hm)
theorem alike_getB {h : List Raw} (H : Fit h) (s : ByteArray) : getB (runO h) s = getB (runR h) s := (alike_all H.ok).2.2 s
theorem Fit.snoc {h : List Raw} (H : Fit h) {r : Raw} (hr : r.okAt (runR h)) (hn : r.n.size ≤ 80) (hl : h.length + 1 ≤ 900000) (hw : wtR h + r.b.length ≤ 100000000) : Fit (h ++ [r]) :=
  ⟨H.ok.snoc hr, fun q hq => by
    rcases List.mem_append.1 hq with h1 | h1
    · exact H.n80 q h1
    · rw [List.mem_singleton] at h1; subst h1; exact hn, by rw [List.length_append, List.length_singleton]; omega, by rw [wtR_append]; simpa [wtR] using hw⟩
end Go.Bd
namespace Go.Proofs.YtggnkpblfmjbcaaGreatDoor
open Go.RowKit Go.Bd
theorem rowF_set (q : Bs) (v : Value) : ∀ {l : Fs} {vs : List Value} {j : Nat} {p : ByteArray × Bs}, l[j]? = some p → vs.length = l.length → rowC fileC (l.set j (p.1, q)) (vs.set j v) = (rowC fileC l vs).set (j * 2 + 1) v
  | [], _, j, p, h, _ => by simp at h
  | _ :: _, [], _, _, _, h => by simp at h
  | a :: l, u :: vs, 0, p, h, hl => by
    simp at h
    subst h
    rfl
  | a :: l, u :: vs, j + 1, p, h, hl => by
    have ih := rowF_set q v (l := l) (vs := vs) (j := j) (p := p) (by simpa using h) (by simpa using hl)
    rw [List.set_cons_succ, List.set_cons_succ, rowC, rowC, ih, show (j + 1) * 2 + 1 = (j * 2 + 1) + 2 by omega]
    rfl
theorem Files.set {w : World} {F : Nat → Prop} {g n c j : Nat} {l : Fs} {p : ByteArray × Bs} {v : Value} {q : Bs} (h : Files w F (.slice (some ⟨g, 0, none⟩) n c) l) (hp : l[j]? = some p) (hF : ∀ k, F k → k ≠ g) (hv : ByR w F v q) :
    Files (w.setCell ⟨g, j * 2 + 1, none⟩ v) F (.slice (some ⟨g, 0, none⟩) n c) (l.set j (p.1, q)) := by
  obtain ⟨vs, h1, h2, h3⟩ := h
  have hn : n = l.length := by
    rcases h2.2 with ⟨e, _⟩ | ⟨g', cap, cur, e, _⟩
    · cases e
    · injection e
  have hc := Chg.set w ⟨g, j * 2 + 1, none⟩ v
  have hj := (List.getElem?_eq_some_iff.1 hp).1
  rw [← hn] at h2
  refine ⟨vs.set j v, by simp [h1], ?_, fun i x u hx hu => ?_⟩
  · rw [List.length_set, ← hn, rowF_set q v hp h1]
    exact (h2.stored (j * 2 + 1) v).1
  · by_cases hij : j = i
    · subst hij
      rw [List.getElem?_set_self hj] at hx
      rw [List.getElem?_set_self (by omega)] at hu
      cases hx; cases hu
      exact hv.chg hc (fun _ h => h) (fun k hk e => hF k hk e)
    · rw [List.getElem?_set_ne hij] at hx hu
      exact (h3 i x u hx hu).chg hc (fun _ h => h) (fun k hk e => hF k hk e)
section
variable {α : Type} {C : α → Value → List Value} {d : Nat} (hC : ∀ x v, (C x v).length = d)
include hC
theorem rowC_cut : ∀ {l : List α} {vs : List Value} (k : Nat), vs.length = l.length → rowC C (l.take k) (vs.take k) = (rowC C l vs).take (k * d) ∧ rowC C (l.drop k) (vs.drop k) = (rowC C l vs).drop (k * d)
  | l, vs, 0, _ => by simp [rowC]
  | [], [], k + 1, _ => by simp [rowC]
  | [], _ :: _, _, h => by simp at h
  | _ :: _, [], _, h => by simp at h
  | x :: l, v :: vs, k + 1, h => by
    obtain ⟨i1, i2⟩ := rowC_cut (l := l) (vs := vs) k (by simpa using h)
    have hl := hC x v
    have e : (k + 1) * d = (C x v).length + k * d := by rw [hl, Nat.succ_mul]; omega
    rw [List.take_succ_cons, List.take_succ_cons, List.drop_succ_cons, List.drop_succ_cons, rowC, rowC, e, List.take_length_add_append, List.drop_length_add_append, i1, i2]
    exact ⟨rfl, rfl⟩
end
theorem news_cut {w : World} {base n c sz m : Nat} {t : TypeId} {A : Option Addr} {xs : List Value} (h : w.ownsRow base t sz (.slice A n c) n xs) :
    (∀ j u, (xs.take m)[j]? = some u → ∃ ad, A = some ad ∧ w.cell? (ad.add j) = some u) ∧ ∀ g, A = some ⟨g, 0, none⟩ → ∀ j u, (xs.drop m)[j]? = some u → w.cell? ((⟨g, m, none⟩ : Addr).add j) = some u := by
  refine ⟨fun j u hu => own_cells h j u ?_, fun g hg j u hu => ?_⟩
  · rw [List.getElem?_take] at hu
    split at hu
    · exact hu
    · cases hu
  · rw [List.getElem?_drop] at hu
    subst hg
    have h5 := h.cells (g := g) rfl (m + j) u hu
    rw [addr_addN, Nat.zero_add] at h5
    rw [addr_addN]
    exact h5
theorem owns_formD {w : World} {B sz n : Nat} {t : TypeId} {v : Value} {xs : List Value} (h : w.ownsRow B t sz v n xs) : ∃ A c, v = .slice A n c ∧ ∀ k, v.ownBlock = some k → B ≤ k ∧ k < w.heap.size := by
  rcases h.2 with ⟨h3, h4⟩ | ⟨g, cap, cur, h3, h4, h5, h6, _⟩
  · exact ⟨none, 0, by rw [h3, h4], by rw [h3]; intro k hk; cases hk⟩
  · refine ⟨_, _, h3, ?_⟩
    rw [h3]
    intro k hk
    have e : g = k := by simpa [Value.ownBlock] using hk
    exact e ▸ ⟨h4, (Array.getElem?_eq_some_iff.1 h5).1⟩
theorem own_mono0 {w : World} {B sz n : Nat} {t : TypeId} {v : Value} {xs : List Value} (h : w.ownsRow B t sz v n xs) : w.ownsRow 0 t sz v n xs := by
  refine ⟨h.1, ?_⟩
  rcases h.2 with h2 | ⟨g, cap, cur, h3, _, r⟩
  · exact .inl h2
  · exact .inr ⟨g, cap, cur, h3, Nat.zero_le _, r⟩
theorem own_freeN {w : World} {B sz n c g : Nat} {t : TypeId} {xs : List Value} (h : w.ownsRow B t sz (.slice (some ⟨g, 0, none⟩) n c) n xs) (j : Nat) : w.frozen? ⟨g, j, none⟩ = false := by
  rcases h.2 with ⟨h3, _⟩ | ⟨g', cap, cur, h3, _, h5, _⟩
  · cases h3
  · injection h3 with e1
    have e : g = g' := by simpa using e1
    subst e
    exact frozen_of_row w g j cur t h5
theorem fnd_some {l : Fs} {s : ByteArray} (h : fnd l s = true) : ∃ p, l[plc l s]? = some p ∧ p.1 = s := by
  unfold fnd at h
  split at h
  · rename_i p hp
    exact ⟨p, hp, by simpa using h⟩
  · cases h
theorem cut_facts {W : World} {F : Nat → Prop} {l : Fs} {vl : List Value} {A : Option Addr} {n c : Nat} (ll : vl.length = l.length) (lo : W.ownsRow 0 tRF 2 (.slice A n c) n (rowC fileC l vl)) (lt : ∀ (j : Nat) (x : ByteArray × Bs) u, l[j]? = some x → vl[j]? = some u → ByR W F u x.2) (m : Nat) :
    (∀ W', Chg W W' (fun _ => False) → (∀ j u, (rowC fileC (l.take m) (vl.take m))[j]? = some u → ∃ ad, A = some ad ∧ W'.cell? (ad.add j) = some u) ∧ ∀ g, A = some ⟨g, 0, none⟩ → ∀ j u, (rowC fileC (l.drop m) (vl.drop m))[j]? = some u → ∃ ad, (some ⟨g, m * 2, none⟩ : Option Addr) = some ad ∧ W'.cell? (ad.add j) = some u) ∧
    (∀ u ∈ rowC fileC (l.take m) (vl.take m), u.oneCell' = true) ∧ (∀ u ∈ rowC fileC (l.drop m) (vl.drop m), u.oneCell' = true) ∧ (rowC fileC (l.take m) (vl.take m)).length = min m l.length * 2 ∧ (rowC fileC (l.drop m) (vl.drop m)).length = (l.length - m) * 2 := by
  obtain ⟨c1, c2⟩ := rowC_cut fileC_len m ll
  have hone := rowC_one (C := fileC) (Bq := fun x : ByteArray × Bs => x.2) (w := W) (F := F) (fun x u q h => fileC_one x u q h) lt
  refine ⟨fun W' hc => ?_, fun u hu => ?_, fun u hu => ?_, ?_, ?_⟩
  · have ho := hc.owns lo (fun _ _ h => h)
    obtain ⟨n1, n2⟩ := news_cut (m := m * 2) ho
    rw [c1, c2]
    exact ⟨n1, fun g hg j u hu => ⟨_, rfl, n2 g hg j u hu⟩⟩
  · rw [c1] at hu
    exact hone u (List.mem_of_mem_take hu)
  · rw [c2] at hu
    exact hone u (List.mem_of_mem_drop hu)
  · rw [rowC_length fileC_len (by rw [List.length_take, List.length_take, ll]), List.length_take]
  · rw [rowC_length fileC_len (by rw [List.length_drop, List.length_drop, ll]), List.length_drop]
theorem file_info : (Tryz.prog.info? 94).map (fun i => (i.zero, i.size, i.bytes)) = some (some (.agg #[.string ⟨#[]⟩, .slice none 0 0]), 2, 40) := by kernel_rfl
theorem raw_info : (Tryz.prog.info? 92).map (fun i => (i.zero, i.size, i.bytes)) = some (some (.agg #[.int .i64 0, .string ⟨#[]⟩, .slice none 0 0]), 3, 48) := by kernel_rfl
theorem byt_info : (Tryz.prog.info? 5).map (fun i => (i.zero, i.size, i.bytes)) = some (some (.int .u8 0), 1, 1) := by kernel_rfl
theorem appO_at {l : Fs} {r : Raw} : (r.k = 0 → r.appO l = setO l r.n []) ∧ (r.k = 1 → r.appO l = setO l r.n ((getB l r.n).getD [] ++ r.b)) ∧ (r.k ≠ 0 → r.k ≠ 1 → r.appO l = delO l r.n) := by
  cases r <;> simp [Raw.k, Raw.n, Raw.b, Raw.appO]
end Go.Proofs.YtggnkpblfmjbcaaGreatDoor
namespace Go.Proofs.YtggnkpblfmjbcaaGreatDoor
open Go.RowKit Go.Bd
theorem used_take {l : Fs} {k : Nat} {p : ByteArray × Bs} (h : l[k]? = some p) : usedB (l.take (k + 1)) = usedB (l.take k) + p.2.length := by
  rw [List.take_add_one, h]
  unfold usedB
  simp
theorem used_take_le (l : Fs) (k : Nat) : usedB (l.take k) ≤ usedB l := by
  have h : l.take k ++ l.drop k = l := List.take_append_drop k l
  have e : usedB l = usedB (l.take k) + usedB (l.drop k) := by
    conv => lhs; rw [← h]
    unfold usedB
    rw [List.map_append, List.sum_append]
  omega
set_option maxRecDepth 100000 in
set_option maxHeartbeats 2000000 in
theorem rused_any {w : World} {O F : Nat → Prop} {db size : Nat} {lv rv : Value} {l : Fs} {h : List Raw} (H : RDs w O F db size lv l rv h) (hl : l.length ≤ 1000000) (hu : usedB l ≤ 100000000) :
    Calls Tryz.prog 23 #[.pointer (some ⟨db, 0, none⟩)] w fun e w' => e = .returned (.int .i64 (usedB l : Int)) ∧ Below w.heap.size w w' := by
  obtain ⟨A, c, rfl, hcl⟩ : ∃ A c, lv = .slice A l.length c ∧ l.length ≤ c := by
    rcases H.fl.form with ⟨h1, h2⟩ | ⟨g, c, h1, h2, _⟩
    · exact ⟨none, 0, by rw [h1, h2]; rfl, by rw [h2]; exact Nat.le_refl _⟩
    · exact ⟨_, _, h1, h2⟩
  have p1 := H.hold.cell 1
  simp at p1
  have hdb := H.hold.lt
  obtain ⟨n, hnl⟩ : ∃ n, l.length = n := ⟨_, rfl⟩
  have HI := Lib.hid (And.intro H hnl)
  have WL := Lib.hid (used_take_le l)
  rw [hnl] at p1 hl hcl
  clear H hnl
  go_enter Tryz.func23, Tryz.ntmps23
  go_wp2
  go_loopg [3, 4] n (fun q vn vi wr => ∃ k : Nat, k + q = n ∧ vi = .int .i64 (k : Int) ∧ vn = .int .i64 (usedB (l.take k) : Int) ∧ Below w.heap.size w wr ∧ ∀ p : Addr, wr.cell? p = w.cell? p)
  case atStart => exact ⟨0, by omega, rfl, by simp [usedB], Below.refl _ _, fun _ => rfl⟩
  case round =>
    obtain ⟨k, hk, rfl, rfl, hbl, hcell⟩ := hrel
    by_cases hlt : k < n
    · obtain ⟨p, hp⟩ : ∃ p, l[k]? = some p := ⟨_, List.getElem?_eq_getElem (by have := HI.out.2; omega)⟩
      obtain ⟨g, u, rfl, hby, hcs⟩ := HI.out.1.fl.at fileC_len hp
      have c1 := hcs 1 u rfl
      obtain ⟨A', c', rfl, _⟩ := hby
      replace c1 := (hcell _).trans c1
      replace p1 := (hcell _).trans p1
      have hwt := used_take hp
      have hwl := WL.out (k + 1)
      rw [hwt] at hwl
      generalize hm : usedB (l.take k) = m at hwt hwl ⊢
      have HWT := Lib.hid hwt
      have HC := Lib.hid hcell
      clear hcell hcs hp hwt
      go_wp2
      all_goals
        go_roundg (gk - 1)
        case measure => omega
        case rel => exact ⟨k + 1, by omega, by go_num, by rw [HWT.out, Int.natCast_add], hbl, fun p => HC.out p⟩
    · obtain rfl : k = n := by omega
      have ht : l.take k = l := List.take_of_length_le (by rw [HI.out.2]; exact Nat.le_refl _)
      rw [ht]
      replace p1 := (hcell _).trans p1
      clear hcell
      go_wp2
      go_ret
      exact ⟨rfl, hbl⟩
set_option maxRecDepth 100000 in
set_option maxHeartbeats 2000000 in
theorem rwrites_any {w : World} {O F : Nat → Prop} {db size : Nat} {lv rv : Value} {l : Fs} {h : List Raw} (H : RDs w O F db size lv l rv h) :
    Calls Tryz.prog 24 #[.pointer (some ⟨db, 0, none⟩)] w fun e w' => e = .returned (.int .i64 (h.length : Int)) ∧ w' = w := by
  obtain ⟨A, c, rfl⟩ : ∃ A c, rv = .slice A h.length c := by
    rcases H.rw.form with ⟨h1, h2⟩ | ⟨g, c, h1, h2, _⟩
    · exact ⟨none, 0, by rw [h1, h2]; rfl⟩
    · exact ⟨_, _, h1⟩
  have p2 := H.hold.cell 2
  simp at p2
  clear H
  go_enter Tryz.func24, Tryz.ntmps24
  go_wp2
  go_ret
  exact ⟨rfl, rfl⟩
set_option maxRecDepth 100000 in
set_option maxHeartbeats 2000000 in
theorem rread_any {w : World} {O F : Nat → Prop} {db size : Nat} {lv rv : Value} {l : Fs} {h : List Raw} (H : RDs w O F db size lv l rv h) (hA : Asc l) (s : ByteArray) (hs : s.size ≤ 140737488355328) (hl : l.length ≤ 1000000) (hn : ∀ p ∈ l, p.1.size ≤ 80) (hq : ∀ p ∈ l, p.2.length ≤ 100000000) :
    Calls Tryz.prog 19 #[.pointer (some ⟨db, 0, none⟩), .string s] w fun e w' => ∃ v', e = .returned (.tuple #[v', .int .i64 ((readB l s).2 : Int)]) ∧ w'.ownsRow w.heap.size 5 1 v' (readB l s).1.length (u8L (readB l s).1) ∧ Below w.heap.size w w' := by
  have hnm := rname_any s w hs
  have hpl := place_any H s hs hl hn
  obtain ⟨b0, hb0, hw0, hw1, hw2⟩ := info_parts byt_info
  have HBI := Lib.hid (And.intro hb0 (And.intro hw0 (And.intro hw1 hw2)))
  have HG := Lib.hid (asc_get hA s)
  have HQ := Lib.hid hq
  clear hb0 hw0 hw1 hw2 hA hn hq
  unfold readB
  cases hb : nameB s with
  | false =>
    rw [hb] at hnm
    clear hpl H
    go_enter Tryz.func19, Tryz.ntmps19
    go_wp2_with (go_at_call 39; refine hnm.mono ?_; rintro e w1 ⟨rfl, rfl⟩)
    go_ret2
    exact ⟨_, rfl, World.ownsRow_nil _ _ _ _, Below.refl _ _⟩
  | true =>
    rw [hb] at hnm
    cases hf : fnd l s with
    | false =>
      rw [hf] at hpl
      have hg : getB l s = none := by
        have := HG.out.1
        rw [hf] at this
        simpa using this
      rw [hg]
      clear H
      go_enter Tryz.func19, Tryz.ntmps19
      go_wp2_with (first
        | (go_at_call 39; refine hnm.mono ?_; rintro e w1 ⟨rfl, rfl⟩)
        | (go_at_call 40; refine hpl.mono ?_; rintro e w2 ⟨rfl, hb2⟩))
      go_ret2
      exact ⟨_, rfl, World.ownsRow_nil _ _ _ _, hb2⟩
    | true =>
      rw [hf] at hpl
      obtain ⟨p, hp, hpn⟩ := fnd_some hf
      have hg := (HG.out.2 p hf hp).2
      rw [hg]
      have hpq := HQ.out p (List.mem_of_getElem? hp)
      have hplt := (List.getElem?_eq_some_iff.1 hp).1
      rcases H.fl.form with ⟨e1, e2⟩ | ⟨g5, c5, e1, hlc, hcm, hg5⟩
      · rw [e2] at hp; simp at hp
      subst e1
      obtain ⟨g6, u6, eg, hby, hcs6⟩ := H.fl.at fileC_len hp
      obtain rfl : g5 = g6 := by injection eg with e; injection e
      have c1 := hcs6 1 u6 rfl
      have hnews := fun (w2 : World) (hb2 : Below w.heap.size w w2) => hby.chg (Chg.below hb2 (fun _ => False)) (fun _ h => h) (fun _ _ h => h)
      obtain ⟨A', c', rfl, hc', hbv⟩ := hby
      have HN := Lib.hid hnews
      have d1 := H.hold.cell 1
      simp at d1
      have hdb := H.hold.lt
      clear hnews hbv eg hcs6 hp H hpn hf hg
      obtain ⟨pl, hpl'⟩ : ∃ pl, plc l s = pl := ⟨_, rfl⟩
      rw [hpl'] at hpl c1 hplt
      clear hpl'
      go_enter Tryz.func19, Tryz.ntmps19
      go_wp2_with (first
        | (go_at_call 39; refine hnm.mono ?_; rintro e w1 ⟨rfl, rfl⟩)
        | (go_at_call 40; refine hpl.mono ?_; rintro e w2 ⟨rfl, hb2⟩; have c1' := (hb2.cell (p := ⟨g5, pl * 2 + 1, none⟩) hg5).trans c1; have d1' := (hb2.cell (p := ⟨db, 1, none⟩) hdb).trans d1; have hs2 := hb2.size)
        | (at_builtin; refine wpList_append_all (by rfl) _ _ _ (by rfl) w1.heap.size 5 b0 _ 1 1 under_bytes HBI.out.1 HBI.out.2.1 HBI.out.2.2.1 HBI.out.2.2.2 rfl (by omega) (.slice none 0 0) 0 [] (by rfl) (World.ownsRow_nil _ _ _ _) _ _ _ (u8L p.2) (by rfl) (by rw [u8L_length, Nat.mul_one]) (HN.out _ hb2).news (fun u hu => u8L_one hu) p.2.length (Nat.zero_add _) (u8L p.2) (List.nil_append _) (by unfold maxLen; omega) (by omega) hs2 ?_; intro A9 c9 w9 ho9 hg9 hat9))
      go_ret2
      exact ⟨_, rfl, ho9, hb2.grown hg9 hs2 (fun k h => by cases h)⟩
end Go.Proofs.YtggnkpblfmjbcaaGreatDoor
