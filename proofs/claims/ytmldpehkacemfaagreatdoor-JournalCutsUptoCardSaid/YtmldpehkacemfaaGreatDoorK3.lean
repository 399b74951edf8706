/-
  What the chapter's laws share, part 3: plain facts, memory, and walks of functions. Its conditions: those that each theorem names.
-/
import Derived.Test.YtmldpehkacemfaaGreatDoorIter
import Derived.Lib.Index
import Derived.Deep.RegionHeld
import Derived.OrdersHeld
import Derived.Deep.AppendLies
import Derived.Laws.ResultCell
import Derived.Laws.Rows
import Derived.Test.YtmldpehkacemfaaGreatDoorShelf
import Derived.Test.YtmldpehkacemfaaGreatDoorK2
set_option linter.unusedSimpArgs false
set_option linter.unusedVariables false
namespace Go.Proofs.YtmldpehkacemfaaGreatDoor
open Go.RowKit Go.Bd Go.Shelf Go.Maps
def removeE (fs : Fs) (s : ByteArray) : Nat := if nameB s then if (getB fs s).isSome then 0 else 5 else 1
def rawsD (fs : Fs) (s : ByteArray) : List Raw := if removeE fs s = 0 then [.gone s] else []
set_option maxRecDepth 100000 in
set_option maxHeartbeats 2000000 in
theorem remove_any {w : World} {F Ro : Nat → Prop} {db size bm : Nat} {es : List Fe} {hist : List Raw} {hv : Value} {fs : List Value} (h : DiskAt w F Ro db size es hist bm hv fs hist) (s : ByteArray) (hs : s.size ≤ 140737488355328) (hh : hist.length + 2 ≤ 900000) :
    Calls Tryz.prog 42 #[.pointer (some ⟨db, 0, none⟩), .string s] w fun e w' => e = .returned (.int .i64 (removeE (runR hist) s : Int)) ∧
      ∃ F' Ro' es' hv' fs', DiskAt w' F' Ro' db size es' (hist ++ rawsD (runR hist) s) bm hv' fs' (hist ++ rawsD (runR hist) s) ∧ (∀ k, F' k → F k ∨ w.heap.size ≤ k) ∧ (∀ k, Ro' k → Ro k ∨ w.heap.size ≤ k) ∧ Chg w w' F := by
  suffices hS : ∀ R : Ending → World → Prop, (∀ e w', (e = .returned (.int .i64 (removeE (runR hist) s : Int)) ∧
      ∃ F' Ro' es' hv' fs', DiskAt w' F' Ro' db size es' (hist ++ rawsD (runR hist) s) bm hv' fs' (hist ++ rawsD (runR hist) s) ∧ (∀ k, F' k → F k ∨ w.heap.size ≤ k) ∧ (∀ k, Ro' k → Ro k ∨ w.heap.size ≤ k) ∧ Chg w w' F) → R e w') → Calls Tryz.prog 42 #[.pointer (some ⟨db, 0, none⟩), .string s] w R from hS _ (fun _ _ h => h)
  intro R hR
  have hfl := h.len_le
  have hul := h.used_le
  have ht := there_any db bm _ _ hv w h.hold
  have hnm := named_any s w hs
  have p2 := h.hold.cell 2
  simp at p2
  have hl := h.map.look_ok (s := s) str_key map_under (zero_bytes w) (by simp only [maxLen]; omega)
  obtain ⟨A, c, hval, hlc⟩ := valF_form h.rows s
  have hsome : (findF es s).isSome = (getB (fsOf es) s).isSome := by rw [getB_of]; simp
  rw [hsome, hval] at hl
  rw [← h.says] at hR
  have HW := Lib.hid h
  have HR := Lib.hid hR
  have HFL : Hid (removeE (fsOf es) s ≠ 0 → R (.returned (.int .i64 (removeE (fsOf es) s : Int))) w) := fun hne => HR.out _ _ ⟨rfl, F, Ro, es, hv, fs, by unfold rawsD; rw [if_neg hne, List.append_nil]; exact HW.out, fun _ h => .inl h, fun _ h => .inl h, Chg.refl _ _⟩
  clear h hR hsome hval
  cases hb : nameB s with
  | false =>
    have hre : removeE (fsOf es) s = 1 := by unfold removeE; simp [hb]
    rw [hb] at hnm
    go_enter Tryz.func42, Tryz.ntmps42
    go_wp2_with (first
      | (go_at_call 17; refine ht.mono ?_; rintro e w1 ⟨rfl, rfl⟩)
      | (go_at_call 50; refine hnm.mono ?_; rintro e w1 ⟨rfl, rfl⟩))
    have := HFL.out (by rw [hre]; decide)
    rw [hre] at this
    exact this
  | true =>
    rw [hb] at hnm
    cases hg : getB (fsOf es) s with
    | none =>
      have hre : removeE (fsOf es) s = 5 := by unfold removeE; simp [hb, hg]
      rw [hg] at hl
      go_enter Tryz.func42, Tryz.ntmps42
      go_wp2_with (first
        | (go_at_call 17; refine ht.mono ?_; rintro e w1 ⟨rfl, rfl⟩)
        | (go_at_call 50; refine hnm.mono ?_; rintro e w1 ⟨rfl, rfl⟩))
      have := HFL.out (by rw [hre]; decide)
      rw [hre] at this
      exact this
    | some o =>
      have hre : removeE (fsOf es) s = 0 := by unfold removeE; simp [hb, hg]
      rw [hg] at hl
      simp only [Option.getD_some, Option.isSome_some] at hl
      go_enter Tryz.func42, Tryz.ntmps42
      go_wp2_with (first
        | (go_at_call 17; refine ht.mono ?_; rintro e w1 ⟨rfl, rfl⟩)
        | (go_at_call 50; refine hnm.mono ?_; rintro e w1 ⟨rfl, rfl⟩)
        | (go_at_call 62; refine (gone_any s _ (nameB_le hb)).mono ?_; rintro e w2 ⟨f2, rfl, hra, hbl⟩)
        | fail)
      have hC2 : Chg _ w2 (fun _ => False) := Chg.below hbl (fun _ => False)
      have hD2 := HW.out.chg (F' := F) (Ro' := Ro) hC2 (fun _ _ h => h) (fun _ _ h => h)
      have hsz := hC2.size
      have hD2' := hD2.ro (Ro' := fun k => Ro k ∨ (w1.heap.size ≤ k ∧ k < w2.heap.size)) (fun _ h => .inl h) (fun k h => by
        rcases h with h | h
        · exact hD2.ltR k h
        · exact h.2) (fun k h hf => by
        rcases h with h | h
        · exact hD2.off k h hf
        · have := HW.out.ltF k hf; omega)
      have hra2 := raw_any hD2' (hra.chg (Ro' := fun k => Ro k ∨ (w1.heap.size ≤ k ∧ k < w2.heap.size)) (Chg.refl w2 (fun _ => False)) (fun k h => .inr h) (fun _ _ h => h)) (by omega) (by omega) (by omega)
      have HC2 := Lib.hid hC2
      clear hD2 hD2' hra hbl hC2
      go_wp2_with (go_at_call 40; refine hra2.mono ?_; rintro e w3 ⟨⟨v3, rfl⟩, es3, hv3, hD3, hcr⟩)
      have hszr := hcr.size
      have := HR.out (.returned (.int .i64 (removeE (fsOf es) s : Int))) w3 ⟨rfl, _, _, es3, hv3, _, by unfold rawsD; rw [if_pos hre]; exact hD3, fun k hk => by
        rcases hk with hk | hk
        · exact .inl hk
        · exact .inr (by omega), fun k hk => by
        rcases hk with hk | hk
        · exact .inl hk
        · exact .inr hk.1, (HC2.out.mono (T := F) (fun _ _ h => h.elim)).trans hcr (fun _ _ h => h)⟩
      rw [hre] at this
      exact this
def namesB (fs : Fs) : List (List UInt8) := (fs.map (fun p => p.1.data.toList)).mergeSort leB
theorem FsMap.perm {w : World} {P : Program} {K bm : Nat} {es : List Fe} (hu : Uniq es) (hk : P.underlying K = some .string) {D : DataW Value} (hown : w.ownsMap P K heldR bm es.length D) (hh : ∀ s : ByteArray, Maps.has D (nameL s) = (findF es s).isSome) : (es.map (fun e => e.name.data.toList)).Perm (strKeys D) := by
  refine Collected.perm (left := fun _ => false) ⟨?_, fun x => ?_⟩ hown (string_keyed hk) hk (fun _ => rfl)
  · rw [List.nodup_iff_pairwise_ne, List.pairwise_map]
    refine hu.imp (fun {a b} hne e => hne ?_)
    cases ha : a.name with
    | mk da =>
      cases hb : b.name with
      | mk db =>
        rw [ha, hb] at e
        simp only at e
        rw [Array.toList_inj.1 e]
  · have h1 := hh ⟨⟨x⟩⟩
    unfold nameL at h1
    simp only at h1
    rw [h1]
    simp only [and_true]
    rw [List.mem_map]
    constructor
    · rintro ⟨e, he, rfl⟩
      exact List.find?_isSome.2 ⟨e, he, by simp⟩
    · intro hs
      obtain ⟨e, he, hp⟩ := List.find?_isSome.1 hs
      have hn : e.name = ⟨⟨x⟩⟩ := by simpa using hp
      exact ⟨e, he, by rw [hn]⟩
set_option maxRecDepth 100000 in
set_option maxHeartbeats 2000000 in
theorem names_any {w : World} {F Ro : Nat → Prop} {db size bm : Nat} {es : List Fe} {hist : List Raw} {hv : Value} {fs : List Value} (h : DiskAt w F Ro db size es hist bm hv fs hist) (hh : hist.length ≤ 900000) :
    Calls Tryz.prog 37 #[.pointer (some ⟨db, 0, none⟩)] w fun e w' => ∃ v, e = .returned v ∧ w'.ownsRow w.heap.size 9 1 v (namesB (runR hist)).length ((namesB (runR hist)).map Go.Proofs.encStr) ∧ Below w.heap.size w w' := by
  have hfl := h.len_le
  have ht := there_any db bm _ _ hv w h.hold
  have p2 := h.hold.cell 2
  simp at p2
  obtain ⟨D, hown, hsz, hhas, _⟩ := h.map
  have hpm := FsMap.perm h.uniq str_key hown hhas
  have hsrt := Tryz.slices_Sorted_keys_58_59 bm es.length D heldR w hown (by simp only [maxLen]; omega) (by omega)
  have hky := Tryz.maps_Keys_59 (some bm) w
  have hns : ∀ ss : List (List UInt8), ss.Perm (strKeys D) → ss.mergeSort leB = namesB (runR hist) := fun ss hp => by
    unfold namesB
    refine mergeSort_of_perm ?_
    rw [← h.says]
    unfold fsOf
    rw [List.map_map]
    exact hp.trans hpm.symm
  have HNS := Lib.hid hns
  clear h hns hpm hhas hown
  go_enter Tryz.func37, Tryz.ntmps37
  go_wp2_with (first
    | (go_at_call 17; refine ht.mono ?_; rintro e w1 ⟨rfl, rfl⟩)
    | (go_at_call 59; refine (callsIn_wide.1 hky).mono ?_; rintro e w1 ⟨rfl, rfl⟩)
    | (go_at_call 58; refine (callsIn_wide.1 hsrt).mono ?_; rintro e w2 ⟨v, ss, rfl, hp, hrow, hnil, hbl⟩))
  go_ret
  have hn := HNS.out ss hp
  have hlen : ss.length = (namesB (runR hist)).length := by rw [← hn, List.length_mergeSort]
  refine ⟨v, rfl, ?_, ?_⟩
  · rw [← hlen, ← hn]
    exact own_mono hrow (by simp)
  · exact (((Below.refl _ _).alloc (Nat.le_refl _) _).trans (hbl.mono (by simp)))
end Go.Proofs.YtmldpehkacemfaaGreatDoor
namespace Go.Proofs.YtmldpehkacemfaaGreatDoor
open Go.RowKit Go.Bd Go.Shelf Go.Maps
set_option maxRecDepth 100000 in
set_option maxHeartbeats 2000000 in
theorem cut_any {w : World} {F Ro : Nat → Prop} {db size bm : Nat} {es : List Fe} {hist : List Raw} {hv : Value} {fs : List Value} (h : DiskAt w F Ro db size es hist bm hv fs hist) (n : Int) (hh : hist.length + 2 ≤ 900000) (hsz : size ≤ 8388608) :
    Calls Tryz.prog 11 #[.pointer (some ⟨db, 0, none⟩), .int .i64 n] w fun e w' => if n < 0 ∨ (hist.length : Int) < n then e = .returned (.tuple #[.pointer none, .int .i64 1]) ∧ w' = w else
      ∃ ndb, e = .returned (.tuple #[.pointer (some ⟨ndb, 0, none⟩), .int .i64 0]) ∧ ∃ F' bm' es' hv' fs', DiskAt w' F' Ro ndb size es' (hist.take n.toNat) bm' hv' fs' (hist.take n.toNat) ∧ (∀ k, F' k → w.heap.size ≤ k) ∧ Below w.heap.size w w' := by
  have ht := there_any db bm _ _ hv w h.hold
  have p0 := h.hold.cell 0
  have p3 := h.hold.cell 3
  simp at p0 p3
  have hrow := h.row
  obtain ⟨A, c, rfl, hlc⟩ : ∃ A c, hv = .slice A hist.length c ∧ hist.length ≤ c := by
    rcases h.row.2 with ⟨h1, h2⟩ | ⟨g, cap, cur, h1, _, _, h3, _⟩
    · exact ⟨none, 0, by rw [h1, h2], by omega⟩
    · exact ⟨_, _, h1, h3⟩
  have HW := Lib.hid h
  by_cases hbad : n < 0 ∨ (hist.length : Int) < n
  · simp only [hbad, if_true]
    rcases hbad with hb | hb
    · clear h hrow
      go_enter Tryz.func11, Tryz.ntmps11
      go_wp2_with (go_at_call 17; refine ht.mono ?_; rintro e w1 ⟨rfl, rfl⟩)
      go_ret2
      exact ⟨rfl, rfl⟩
    · have hb0 : ¬ n < 0 := by omega
      clear h hrow
      go_enter Tryz.func11, Tryz.ntmps11
      go_wp2_with (go_at_call 17; refine ht.mono ?_; rintro e w1 ⟨rfl, rfl⟩)
      go_ret2
      exact ⟨rfl, rfl⟩
  · simp only [hbad, if_false]
    obtain ⟨m, rfl⟩ : ∃ m : Nat, n = m := ⟨n.toNat, by omega⟩
    have hm : m ≤ hist.length := by omega
    simp only [Int.toNat_natCast]
    have hcells : ∀ j, j < hist.length → ∃ b, A = some ⟨b, 0, none⟩ ∧ b < w.heap.size ∧ ∃ f r, hist[j]? = some r ∧ RawAt w Ro f r ∧ w.cell? ⟨b, j, none⟩ = some f := by
      intro j hj
      rcases hrow.2 with ⟨h1, h2⟩ | ⟨g, cap, cur, h1, _, h3, _⟩
      · omega
      · injection h1 with h1
        subst h1
        have hl : fs.length = hist.length := by simpa using hrow.1
        have hf := List.getElem?_eq_getElem (l := fs) (i := j) (by omega)
        have hr := List.getElem?_eq_getElem (l := hist) (i := j) hj
        refine ⟨g, rfl, (Array.getElem?_eq_some_iff.1 h3).1, _, _, hr, h.raws.2 j _ _ hf hr, ?_⟩
        have := hrow.cells (g := g) rfl j _ hf
        rw [add_addr] at this
        simpa using this
    have HC := Lib.hid hcells
    have hdb : db < w.heap.size := h.hold.lt
    have hmc : m ≤ c := by omega
    have hmm := @run_makeMap Tryz.prog
    clear h hrow hcells hbad
    go_enter Tryz.func11, Tryz.ntmps11
    go_wp2_with (go_at_call 17; refine ht.mono ?_; rintro e w1 ⟨rfl, rfl⟩)
    have hd1 : decide (hist.length < m) = false := decide_eq_false (by omega)
    have hd2 : decide ((m : Int) < 0) = false := decide_eq_false (by omega)
    simp only [hd1, hd2, Bool.or_false]
    go_loopg [8, 37] m (fun q _ vi wr => ∃ k : Nat, k + q = m ∧ vi = .int .i64 (k : Int) ∧ ∃ F1 es1 hv1 fs1, DiskAt wr F1 Ro (w1.heap.size + 1) size es1 (hist.take k) w1.heap.size hv1 fs1 (hist.take k) ∧ (∀ j, F1 j → w1.heap.size ≤ j) ∧ Below w1.heap.size w1 wr)
    case atStart =>
      have hH := Holds.new (w1.alloc (.map #[] 0)) 54 #[.int .i64 (size : Int), .int .i64 0, .map (some w1.heap.size), .slice none 0 0]
      rw [World.size_alloc] at hH
      refine ⟨0, by omega, rfl, fun k => k = w1.heap.size ∨ k = w1.heap.size + 1, [], .slice none 0 0, [], DiskAt.new hH ((FsMap.new w1 _ _).eq (Below.heap_alloc _ _ _ (by simp))) (by omega) (.inr rfl) (.inl rfl) (fun k hk => by simp; omega) (fun k hk => by have := HW.out.ltR k hk; simp; omega) (fun k hk hf => by have := HW.out.ltR k hk; omega), fun k hk => by omega, ((Below.refl _ w1).alloc (Nat.le_refl _) _).alloc (by simp) _⟩
    case round =>
      obtain ⟨k, hk, rfl, F1, es1, hv1, fs1, hD, hF, hB⟩ := hrel
      by_cases hlt : k < m
      · obtain ⟨b, rfl, hbl, f, r, hr, hra, hcf⟩ := HC.out k (by omega)
        have hcf2 := (hB.cell (p := ⟨b, k, none⟩) hbl).trans hcf
        have hel := hD.len_le
        have hus := hD.used_le
        have htl : (hist.take k).length = k := by rw [List.length_take]; omega
        have hra2 := raw_any hD (hra.chg (Ro' := Ro) (Chg.below hB (fun _ => False)) (fun _ h => h) (fun _ _ h => h)) (by omega) (by omega) (by omega)
        have hts : hist.take (k + 1) = hist.take k ++ [r] := by rw [List.take_add_one, hr]; rfl
        have HD := Lib.hid hD
        have HB := Lib.hid hB
        have HF := Lib.hid hF
        clear hD hB hF
        go_wp2_with (go_at_call 40; refine hra2.mono ?_; rintro e w2 ⟨⟨v2, rfl⟩, es2, hv2, hD2, hc2⟩)
        have hs2 := hc2.size
        have hs1 := HB.out.size
        go_roundg (gk - 1)
        case measure => omega
        case rel =>
          refine ⟨k + 1, by omega, by go_num, _, es2, hv2, _, hts ▸ hD2, fun j hj => ?_, HB.out.trans (hc2.toBelow hs1 (fun j hj => HF.out j hj))⟩
          rcases hj with hj | hj
          · exact HF.out j hj
          · omega
      · obtain rfl : k = m := by omega
        go_wp2
        go_ret2
        exact ⟨_, rfl, F1, _, es1, hv1, fs1, hD, hF, hB⟩
end Go.Proofs.YtmldpehkacemfaaGreatDoor
namespace Go.Proofs.YtmldpehkacemfaaGreatDoor
open Go.RowKit Go.Bd
def Texts (w : World) (B : Nat) (v : Value) (xs : List ByteArray) : Prop := Rd w B v (xs.map Value.string)
def BytesR (w : World) (B : Nat) (v : Value) (xs : Bs) : Prop := Rd w B v (u8L xs)
end Go.Proofs.YtmldpehkacemfaaGreatDoor
namespace Go.Proofs.YtmldpehkacemfaaGreatDoor
open Go.RowKit Go.Bd
theorem delB_delB (fs : Fs) (s : ByteArray) : delB (delB fs s) s = delB fs s := by
  unfold delB
  rw [List.filter_filter]
  simp
theorem setB_setB (fs : Fs) (s : ByteArray) (a b : Bs) : setB (setB fs s a) s b = setB fs s b := by
  unfold setB
  have h : delB (delB fs s ++ [(s, a)]) s = delB fs s := by
    have h1 : delB (delB fs s ++ [(s, a)]) s = delB (delB fs s) s ++ delB [(s, a)] s := by unfold delB; rw [List.filter_append]
    rw [h1, delB_delB]
    simp [delB]
  rw [h]
theorem run_pieces (s : ByteArray) : ∀ (ps : List Bs) (fs : Fs) (acc : Bs), (ps.map (Raw.behind s)).foldl (fun fs r => r.app fs) (setB fs s acc) = setB fs s (acc ++ ps.flatten)
  | [], fs, acc => by simp
  | p :: ps, fs, acc => by
    rw [List.map_cons, List.foldl_cons]
    have h : (Raw.behind s p).app (setB fs s acc) = setB fs s (acc ++ p) := by
      unfold Raw.app
      simp only [getB_set_same, Option.getD_some, setB_setB]
    rw [h, run_pieces s ps fs (acc ++ p)]
    simp
theorem pieces_flatten (q : Bs) : ∀ n, ((List.range n).map (pieceAt q)).flatten = q.take (n * 512)
  | 0 => by simp
  | n + 1 => by
    rw [List.range_succ, List.map_append, List.flatten_append, pieces_flatten q n]
    simp only [List.map_cons, List.map_nil, List.flatten_cons, List.flatten_nil, List.append_nil]
    unfold pieceAt
    have e : (n + 1) * 512 = n * 512 + 512 := by omega
    rw [e, List.take_add]
theorem chunks_flatten (q : Bs) : (chunksB q).flatten = q := by
  unfold chunksB
  rw [pieces_flatten, List.take_of_length_le (by omega)]
theorem chunks_length (q : Bs) : (chunksB q).length = (q.length + 511) / 512 := by unfold chunksB; simp
theorem run_write (h : List Raw) (s : ByteArray) (q : Bs) : runR (h ++ (.empty s :: (chunksB q).map (.behind s))) = setB (runR h) s q := by
  unfold runR
  rw [List.foldl_append, List.foldl_cons]
  show List.foldl _ (setB _ s []) _ = _
  rw [run_pieces, List.nil_append, chunks_flatten]
theorem run_rawsW (h : List Raw) (size : Nat) (s : ByteArray) (q : Bs) : runR (h ++ rawsW (runR h) size s q) = if writeE (runR h) size s q = 0 then setB (runR h) s q else runR h := by
  unfold rawsW
  split
  · exact run_write h s q
  · rw [List.append_nil]
theorem run_rawsD (h : List Raw) (s : ByteArray) : runR (h ++ rawsD (runR h) s) = if removeE (runR h) s = 0 then delB (runR h) s else runR h := by
  unfold rawsD
  split
  · rw [runR_snoc]; rfl
  · rw [List.append_nil]
theorem rawsW_length (fs : Fs) (size : Nat) (s : ByteArray) (q : Bs) : (rawsW fs size s q).length ≤ (q.length + 511) / 512 + 1 := by
  unfold rawsW
  split
  · rw [List.length_cons, List.length_map, chunks_length]; omega
  · simp
theorem rawsD_length (fs : Fs) (s : ByteArray) : (rawsD fs s).length ≤ 1 := by
  unfold rawsD
  split <;> simp
def Dk (w : World) (F Ro : Nat → Prop) (db size : Nat) (hist : List Raw) : Prop := ∃ bm es hv fs, DiskAt w F Ro db size es hist bm hv fs hist
section
variable {w w' : World} {F F' Ro S : Nat → Prop} {db size : Nat} {hist : List Raw}
theorem Dk.chg (h : Dk w F Ro db size hist) (hc : Chg w w' S) (hS : ∀ k, F k → ¬ S k) (hR : ∀ k, Ro k → ¬ S k) : Dk w' F Ro db size hist := by
  obtain ⟨bm, es, hv, fs, h⟩ := h
  exact ⟨bm, es, hv, fs, h.chg (F' := F) (Ro' := Ro) hc hS hR⟩
theorem Dk.below (h : Dk w F Ro db size hist) (hb : Below w.heap.size w w') : Dk w' F Ro db size hist := h.chg (Chg.below hb (fun _ => False)) (fun _ _ h => h) (fun _ _ h => h)
theorem Dk.ltF (h : Dk w F Ro db size hist) : ∀ k, F k → k < w.heap.size := by
  obtain ⟨bm, es, hv, fs, h⟩ := h
  exact h.ltF
theorem Dk.ltR (h : Dk w F Ro db size hist) : ∀ k, Ro k → k < w.heap.size := by
  obtain ⟨bm, es, hv, fs, h⟩ := h
  exact h.ltR
theorem Dk.off (h : Dk w F Ro db size hist) : ∀ k, Ro k → ¬ F k := by
  obtain ⟨bm, es, hv, fs, h⟩ := h
  exact h.off
theorem new_dk (size : Nat) (hs : size ≤ 8388608) (w : World) :
    Calls Tryz.prog 6 #[.int .i64 (size : Int)] w fun e w' => ∃ db, e = .returned (.tuple #[.pointer (some ⟨db, 0, none⟩), .int .i64 0]) ∧ Dk w' (fun k => w.heap.size ≤ k ∧ k < w'.heap.size) (fun _ => False) db size [] ∧ Below w.heap.size w w' := by
  refine (new_any size hs w).mono ?_
  rintro e w' ⟨rfl, h1, h2, h3, h4⟩
  exact ⟨_, rfl, ⟨_, _, _, _, DiskAt.new h1 h2 (by omega) ⟨by omega, by omega⟩ ⟨by omega, by omega⟩ (fun k hk => hk.2) (fun k hk => hk.elim) (fun k hk => hk.elim)⟩, h3⟩
theorem write_dk (h : Dk w F Ro db size hist) (s : ByteArray) (hs : s.size ≤ 140737488355328) (q : Bs) (A : Option Addr) (c : Nat)
    (hA : InB w F A q) (hq : q.length ≤ 100000000) (hc : q.length ≤ c) (hh : hist.length + (q.length + 511) / 512 + 2 ≤ 900000) (hsz : size ≤ 8388608) :
    Calls Tryz.prog 31 #[.pointer (some ⟨db, 0, none⟩), .string s, .slice A q.length c] w fun e w' => e = .returned (.int .i64 (writeE (runR hist) size s q : Int)) ∧
      ∃ F' Ro', Dk w' F' Ro' db size (hist ++ rawsW (runR hist) size s q) ∧ (∀ k, F' k → F k ∨ w.heap.size ≤ k) ∧ (∀ k, Ro' k → Ro k ∨ w.heap.size ≤ k) ∧ Chg w w' F := by
  obtain ⟨bm, es, hv, fs, h⟩ := h
  refine (write_any h s hs q A c hA hq hc hh hsz).mono ?_
  rintro e w' ⟨rfl, F', Ro', es', hv', fs', h1, h2, h3, h4⟩
  exact ⟨rfl, F', Ro', ⟨bm, es', hv', fs', h1⟩, h2, h3, h4⟩
theorem remove_dk (h : Dk w F Ro db size hist) (s : ByteArray) (hs : s.size ≤ 140737488355328) (hh : hist.length + 2 ≤ 900000) :
    Calls Tryz.prog 42 #[.pointer (some ⟨db, 0, none⟩), .string s] w fun e w' => e = .returned (.int .i64 (removeE (runR hist) s : Int)) ∧
      ∃ F' Ro', Dk w' F' Ro' db size (hist ++ rawsD (runR hist) s) ∧ (∀ k, F' k → F k ∨ w.heap.size ≤ k) ∧ (∀ k, Ro' k → Ro k ∨ w.heap.size ≤ k) ∧ Chg w w' F := by
  obtain ⟨bm, es, hv, fs, h⟩ := h
  refine (remove_any h s hs hh).mono ?_
  rintro e w' ⟨rfl, F', Ro', es', hv', fs', h1, h2, h3, h4⟩
  exact ⟨rfl, F', Ro', ⟨bm, es', hv', fs', h1⟩, h2, h3, h4⟩
theorem read_dk (h : Dk w F Ro db size hist) (s : ByteArray) (hs : s.size ≤ 140737488355328) (hh : hist.length ≤ 900000) :
    Calls Tryz.prog 39 #[.pointer (some ⟨db, 0, none⟩), .string s] w fun e w' => ∃ v', e = .returned (.tuple #[v', .int .i64 ((readB (runR hist) s).2 : Int)]) ∧ w'.ownsRow w.heap.size 5 1 v' (readB (runR hist) s).1.length (u8L (readB (runR hist) s).1) ∧ Below w.heap.size w w' := by
  obtain ⟨bm, es, hv, fs, h⟩ := h
  have h1 := h.used_le
  have h2 := read_any h s hs (by omega)
  rw [h.says] at h2
  exact h2
theorem names_dk (h : Dk w F Ro db size hist) (hh : hist.length ≤ 900000) :
    Calls Tryz.prog 37 #[.pointer (some ⟨db, 0, none⟩)] w fun e w' => ∃ v, e = .returned v ∧ w'.ownsRow w.heap.size 9 1 v (namesB (runR hist)).length ((namesB (runR hist)).map Go.Proofs.encStr) ∧ Below w.heap.size w w' := by
  obtain ⟨bm, es, hv, fs, h⟩ := h
  exact names_any h hh
theorem writes_dk (h : Dk w F Ro db size hist) :
    Calls Tryz.prog 8 #[.pointer (some ⟨db, 0, none⟩)] w fun e w' => e = .returned (.int .i64 (hist.length : Int)) ∧ w' = w := by
  obtain ⟨bm, es, hv, fs, h⟩ := h
  exact writes_any h
theorem cut_dk (h : Dk w F Ro db size hist) (n : Int) (hh : hist.length + 2 ≤ 900000) (hsz : size ≤ 8388608) :
    Calls Tryz.prog 11 #[.pointer (some ⟨db, 0, none⟩), .int .i64 n] w fun e w' => if n < 0 ∨ (hist.length : Int) < n then e = .returned (.tuple #[.pointer none, .int .i64 1]) ∧ w' = w else
      ∃ ndb, e = .returned (.tuple #[.pointer (some ⟨ndb, 0, none⟩), .int .i64 0]) ∧ Dk w' (fun k => w.heap.size ≤ k ∧ k < w'.heap.size) Ro ndb size (hist.take n.toNat) ∧ Below w.heap.size w w' := by
  obtain ⟨bm, es, hv, fs, h⟩ := h
  refine (cut_any h n hh hsz).mono ?_
  intro e w' hp
  by_cases hn : n < 0 ∨ (hist.length : Int) < n
  · simp only [hn, if_true] at hp ⊢
    exact hp
  · simp only [hn, if_false] at hp ⊢
    obtain ⟨ndb, rfl, F', bm', es', hv', fs', h1, h2, h3⟩ := hp
    exact ⟨ndb, rfl, ⟨bm', es', hv', fs', h1.wider (fun k hk => ⟨h2 k hk, h1.ltF k hk⟩) (fun k hk => hk.2) (fun k hk hf => by have := h.ltR k hk; omega)⟩, h3⟩
end
end Go.Proofs.YtmldpehkacemfaaGreatDoor
namespace Go.Proofs.YtmldpehkacemfaaGreatDoor
open Go.RowKit Go.Bd
theorem getB_del_same (fs : Fs) (s : ByteArray) : getB (delB fs s) s = none := by
  unfold getB delB
  have h : (fs.filter (fun p => !decide (p.1 = s))).find? (fun p => decide (p.1 = s)) = none := by
    rw [List.find?_eq_none]
    intro x hx
    have := (List.mem_filter.1 hx).2
    simpa using this
  rw [h]; rfl
theorem getB_del_other (fs : Fs) {s t : ByteArray} (ht : t ≠ s) : getB (delB fs s) t = getB fs t := by
  have h : (delB fs s).find? (fun p => decide (p.1 = t)) = fs.find? (fun p => decide (p.1 = t)) := by
    unfold delB
    rw [List.find?_filter]
    congr 1
    funext p
    by_cases hp : p.1 = t
    · simp [hp, ht]
    · simp [hp]
  unfold getB
  rw [h]
theorem getB_mem {fs : Fs} {s : ByteArray} {b : Bs} (h : getB fs s = some b) : (s, b) ∈ fs := by
  unfold getB at h
  cases hf : fs.find? (fun p => decide (p.1 = s)) with
  | none => rw [hf] at h; cases h
  | some p =>
    rw [hf] at h
    have h1 := List.find?_some hf
    have h2 := List.mem_of_find?_eq_some hf
    simp at h h1
    obtain ⟨x, y⟩ := p
    simp only at h h1
    subst h h1
    exact h2
theorem getB_of_mem {fs : Fs} (hu : UniqB fs) {s : ByteArray} {b : Bs} (h : (s, b) ∈ fs) : getB fs s = some b := by
  induction fs with
  | nil => cases h
  | cons a fs ih =>
    have h1 := List.pairwise_cons.1 hu
    unfold getB
    rcases List.mem_cons.1 h with rfl | h2
    · simp
    · have hne : a.1 ≠ s := h1.1 _ h2
      rw [List.find?_cons_of_neg (by simpa using hne)]
      exact ih h1.2 h2
inductive DOp
  | rm (s : ByteArray)
  | wr (s : ByteArray) (q : Bs)
def DOp.raws (size : Nat) (fs : Fs) : DOp → List Raw
  | .rm s => rawsD fs s
  | .wr s q => rawsW fs size s q
def runO (size : Nat) : List DOp → List Raw → List Raw
  | [], h => h
  | o :: l, h => runO size l (h ++ o.raws size (runR h))
theorem runO_app (size : Nat) : ∀ (a b : List DOp) (h : List Raw), runO size (a ++ b) h = runO size b (runO size a h)
  | [], _, _ => rfl
  | _ :: a, b, _ => runO_app size a b _
theorem runO_more (size : Nat) : ∀ (l : List DOp) (h : List Raw), ∃ r, runO size l h = h ++ r
  | [], h => ⟨[], by simp [runO]⟩
  | o :: l, h => by
    obtain ⟨r, hr⟩ := runO_more size l (h ++ o.raws size (runR h))
    exact ⟨o.raws size (runR h) ++ r, by rw [runO, hr, List.append_assoc]⟩
theorem runO_len (size : Nat) (l : List DOp) (h : List Raw) : h.length ≤ (runO size l h).length := by
  obtain ⟨r, hr⟩ := runO_more size l h
  rw [hr]; simp
def Along (P : Fs → Prop) (h h' : List Raw) : Prop := ∀ k, h.length ≤ k → k ≤ h'.length → P (runR (h'.take k))
theorem Along.at_end {P : Fs → Prop} {h h' : List Raw} (ha : Along P h h') (hl : h.length ≤ h'.length) : P (runR h') := by
  have := ha h'.length hl (Nat.le_refl _)
  rwa [List.take_length] at this
theorem Along.refl {P : Fs → Prop} {h : List Raw} (hp : P (runR h)) : Along P h h := fun k h1 h2 => by
  rw [List.take_of_length_le (by omega)]; exact hp
theorem Along.mono {P Q : Fs → Prop} {h h' : List Raw} (ha : Along P h h') (hq : ∀ fs, P fs → Q fs) : Along Q h h' := fun k h1 h2 => hq _ (ha k h1 h2)
theorem Along.trans {P : Fs → Prop} {h h1 h2 : List Raw} (ha : Along P h h1) (hb : Along P h1 h2) (hp : ∃ r, h2 = h1 ++ r) : Along P h h2 := fun k hk1 hk2 => by
  obtain ⟨r, rfl⟩ := hp
  by_cases hk : k ≤ h1.length
  · have := ha k hk1 hk
    rwa [List.take_append_of_le_length hk]
  · exact hb k (by omega) hk2
theorem run_part (h : List Raw) (s : ByteArray) (q : Bs) (j : Nat) : runR (h ++ (Raw.empty s :: ((chunksB q).take j).map (.behind s))) = setB (runR h) s (q.take (j * 512)) := by
  unfold runR
  rw [List.foldl_append, List.foldl_cons]
  show List.foldl _ (setB _ s []) _ = _
  rw [run_pieces, List.nil_append]
  congr 1
  unfold chunksB
  by_cases hj : j ≤ (q.length + 511) / 512
  · rw [← List.map_take, List.take_range, Nat.min_eq_left hj, pieces_flatten]
  · rw [List.take_of_length_le (by simp; omega), pieces_flatten, List.take_of_length_le (by omega), List.take_of_length_le (by omega)]
theorem along_rm {P : Fs → Prop} {size : Nat} {h : List Raw} (s : ByteArray) (h0 : P (runR h)) (h1 : removeE (runR h) s = 0 → P (delB (runR h) s)) : Along P h (h ++ DOp.raws size (runR h) (.rm s)) := fun k hk1 hk2 => by
  unfold DOp.raws rawsD at *
  by_cases he : removeE (runR h) s = 0
  · simp only [he, if_true] at hk2 ⊢
    by_cases hk : k = h.length
    · subst hk; rw [List.take_left' rfl]; exact h0
    · rw [List.take_of_length_le (by simp at hk2 ⊢; omega), runR_snoc]
      exact h1 he
  · simp only [he, if_false, List.append_nil] at hk2 ⊢
    rw [List.take_of_length_le hk1]; exact h0
theorem along_wr {P : Fs → Prop} {size : Nat} {h : List Raw} (s : ByteArray) (q : Bs) (h0 : P (runR h)) (h1 : writeE (runR h) size s q = 0 → ∀ m, P (setB (runR h) s (q.take m))) : Along P h (h ++ DOp.raws size (runR h) (.wr s q)) := fun k hk1 hk2 => by
  unfold DOp.raws rawsW at *
  by_cases he : writeE (runR h) size s q = 0
  · simp only [he, if_true] at hk2 ⊢
    by_cases hk : k = h.length
    · subst hk; rw [List.take_left' rfl]; exact h0
    · obtain ⟨j, rfl⟩ : ∃ j, k = h.length + (j + 1) := ⟨k - h.length - 1, by omega⟩
      rw [List.take_length_add_append, List.take_succ_cons, ← List.map_take, run_part]
      exact h1 he _
  · simp only [he, if_false, List.append_nil] at hk2 ⊢
    rw [List.take_of_length_le hk1]; exact h0
theorem run_op (size : Nat) (h : List Raw) (o : DOp) : runR (h ++ o.raws size (runR h)) = match o with
    | .rm s => if removeE (runR h) s = 0 then delB (runR h) s else runR h
    | .wr s q => if writeE (runR h) size s q = 0 then setB (runR h) s q else runR h := by
  cases o with
  | rm s => exact run_rawsD h s
  | wr s q => exact run_rawsW h size s q
end Go.Proofs.YtmldpehkacemfaaGreatDoor
namespace Go.Proofs.YtmldpehkacemfaaGreatDoor
open Go.RowKit Go.Bd
theorem name_cnt : ∀ n < 99, nameB (cntN n) = true := by decide +kernel
theorem name_trial : nameB trialN = true := by decide +kernel
structure Plan where
  rm : List ByteArray
  wr : List (ByteArray × Bs)
def Plan.ops (p : Plan) : List DOp := p.rm.map .rm ++ p.wr.map fun f => .wr f.1 f.2
def Plan.tail (p : Plan) : Bs := num8 p.rm.length ++ p.rm.flatMap (fun s => text8B s.data.toList) ++ (num8 p.wr.length ++ p.wr.flatMap (fun f => text8B f.1.data.toList ++ text8B f.2))
def Plan.log (p : Plan) : Bs := num8 (8 + p.tail.length) ++ p.tail
def readN (b : Bs) : Option (Nat × Bs) := if b.length < 8 then none else if 8388608 < val8 (b.take 8) then none else some (val8 (b.take 8), b.drop 8)
def readT (b : Bs) : Option (Bs × Bs) := (readN b).bind fun p => if p.2.length < p.1 then none else some (p.2.take p.1, p.2.drop p.1)
def readTs : Nat → Bs → Option (List ByteArray × Bs)
  | 0, b => some ([], b)
  | n + 1, b => (readT b).bind fun p => (readTs n p.2).map fun q => (⟨p.1.toArray⟩ :: q.1, q.2)
def readFs : Nat → Bs → Option (List (ByteArray × Bs) × Bs)
  | 0, b => some ([], b)
  | n + 1, b => (readT b).bind fun p => (readT p.2).bind fun q => (readFs n q.2).map fun r => ((⟨p.1.toArray⟩, q.1) :: r.1, r.2)
def readP (b : Bs) : Option Plan := (readN b).bind fun p => if p.1 ≠ b.length then none else
  (readN p.2).bind fun q => (readTs q.1 q.2).bind fun r => (readN r.2).bind fun t => (readFs t.1 t.2).bind fun u => if u.2 = [] then some ⟨r.1, u.1⟩ else none
theorem readN_num {n : Nat} (h : n ≤ 8388608) (b : Bs) : readN (num8 n ++ b) = some (n, b) := by
  unfold readN
  have h8 := num8_len n
  rw [if_neg (by rw [List.length_append]; omega), List.take_left' h8, List.drop_left' h8, val8_num h, if_neg (by omega)]
theorem readT_text {s : Bs} (h : s.length ≤ 8388608) (b : Bs) : readT (text8B s ++ b) = some (s, b) := by
  unfold readT text8B
  rw [List.append_assoc, readN_num h]
  simp
theorem readTs_all : ∀ (l : List ByteArray) (b : Bs), (∀ s ∈ l, s.size ≤ 8388608) → readTs l.length (l.flatMap (fun s => text8B s.data.toList) ++ b) = some (l, b)
  | [], b, _ => rfl
  | s :: l, b, h => by
    have h1 := h s (List.mem_cons_self ..)
    rw [List.flatMap_cons, List.append_assoc, List.length_cons, readTs, readT_text (by simpa using h1)]
    simp only [Option.bind_some]
    rw [readTs_all l b (fun x hx => h x (List.mem_cons_of_mem _ hx))]
    simp
theorem readFs_all : ∀ (l : List (ByteArray × Bs)) (b : Bs), (∀ f ∈ l, f.1.size ≤ 8388608 ∧ f.2.length ≤ 8388608) → readFs l.length (l.flatMap (fun f => text8B f.1.data.toList ++ text8B f.2) ++ b) = some (l, b)
  | [], b, _ => rfl
  | f :: l, b, h => by
    have h1 := h f (List.mem_cons_self ..)
    rw [List.flatMap_cons, List.append_assoc, List.append_assoc, List.length_cons, readFs, readT_text (by simpa using h1.1)]
    simp only [Option.bind_some]
    rw [readT_text h1.2]
    simp only [Option.bind_some]
    rw [readFs_all l b (fun x hx => h x (List.mem_cons_of_mem _ hx))]
    simp
structure Plan.Ok (p : Plan) : Prop where
  len : p.log.length ≤ 8388608
  rm : p.rm.length ≤ 8388608 ∧ ∀ s ∈ p.rm, s.size ≤ 8388608
  wr : p.wr.length ≤ 8388608 ∧ ∀ f ∈ p.wr, f.1.size ≤ 8388608 ∧ f.2.length ≤ 8388608
theorem log_len (p : Plan) : p.log.length = 8 + p.tail.length := by unfold Plan.log; rw [List.length_append, num8_len]
theorem read_log {p : Plan} (h : p.Ok) : readP p.log = some p := by
  have hl := h.len
  have hll := log_len p
  unfold readP
  have e1 : readN p.log = some (8 + p.tail.length, p.tail) := readN_num (by omega) _
  rw [e1]
  simp only [Option.bind_some]
  rw [if_neg (by rw [hll]; exact fun h => h rfl)]
  unfold Plan.tail
  rw [List.append_assoc, readN_num h.rm.1]
  simp only [Option.bind_some]
  rw [readTs_all _ _ h.rm.2]
  simp only [Option.bind_some]
  rw [readN_num h.wr.1]
  simp only [Option.bind_some]
  have e := readFs_all p.wr [] h.wr.2
  rw [List.append_nil] at e
  rw [e]
  simp
theorem read_part {p : Plan} (hl : p.log.length ≤ 8388608) {m : Nat} (hm : m < p.log.length) : readP (p.log.take m) = none := by
  have hll := log_len p
  unfold readP
  by_cases h8 : m < 8
  · have : readN (p.log.take m) = none := by
      unfold readN
      rw [if_pos (by rw [List.length_take]; omega)]
    rw [this]; rfl
  · have e : p.log.take m = num8 (8 + p.tail.length) ++ p.tail.take (m - 8) := by
      unfold Plan.log
      rw [List.take_append, num8_len, List.take_of_length_le (by rw [num8_len]; omega)]
    have e2 : readN (p.log.take m) = some (8 + p.tail.length, p.tail.take (m - 8)) := by
      rw [e, readN_num (by omega)]
    rw [e2]
    simp only [Option.bind_some]
    rw [if_pos]
    rw [List.length_take]
    omega
end Go.Proofs.YtmldpehkacemfaaGreatDoor
namespace Go.Proofs.YtmldpehkacemfaaGreatDoor
open Go.RowKit Go.Bd
set_option maxRecDepth 100000 in
set_option maxHeartbeats 1000000 in
theorem rshort_any (w : World) (rb B : Nat) (A : Option Addr) (c : Nat) (bad : Bool) (l : Bs) (h : RdrAt w rb B A c bad l) (h8 : l.length < 8) :
    Calls Tryz.prog 65 #[.pointer (some ⟨rb, 0, none⟩)] w fun e w' => e = .returned (.int .i64 0) ∧ RdrAt w' rb B none 0 true [] ∧ Chg w w' (fun k => k = rb) := by
  have H := Lib.hid h
  have p0 := h.h.cell 0
  have p1 := h.h.cell 1
  have f0 := h.h.free 0
  have f1 := h.h.free 1
  simp at p0 p1
  clear h
  have hfr := (H.out.h.set 1 (.bool true)).free 0
  have HX : Hid (RdrAt ((w.setCell ⟨rb, 1, none⟩ (.bool true)).setCell ⟨rb, 0, none⟩ (.slice none 0 0)) rb B none 0 true [] ∧ Chg w ((w.setCell ⟨rb, 1, none⟩ (.bool true)).setCell ⟨rb, 0, none⟩ (.slice none 0 0)) (fun k => k = rb)) := Lib.hid (by
    refine ⟨⟨?_, by simp, H.out.lt, .inl ⟨rfl, rfl, rfl⟩⟩, (Chg.set _ _ _).trans (Chg.set _ _ _) (fun _ _ h => h)⟩
    have := (H.out.h.set 1 (.bool true)).set 0 (.slice none 0 0)
    simpa using this)
  go_enter Tryz.func65, Tryz.ntmps65
  go_wp2_with fail
  go_ret
  exact ⟨rfl, HX.out⟩
def NumR (l : Bs) (bad : Bool) (n : Nat) (bad' : Bool) (l' : Bs) : Prop := l'.length ≤ l.length ∧ n ≤ 8388608 ∧ ((readN l = some (n, l') ∧ bad' = bad) ∨ (readN l = none ∧ n = 0 ∧ bad' = true))
theorem rnum_any (w : World) (rb B : Nat) (A : Option Addr) (c : Nat) (bad : Bool) (l : Bs) (h : RdrAt w rb B A c bad l) (hl : l.length ≤ 100000000) :
    Calls Tryz.prog 65 #[.pointer (some ⟨rb, 0, none⟩)] w fun e w' => ∃ n bad' A' c' l', e = .returned (.int .i64 (n : Nat)) ∧ RdrAt w' rb B A' c' bad' l' ∧ Chg w w' (fun k => k = rb) ∧ NumR l bad n bad' l' := by
  by_cases h8 : l.length < 8
  · refine (rshort_any w rb B A c bad l h h8).mono ?_
    rintro e w' ⟨rfl, h1, h2⟩
    refine ⟨0, true, none, 0, [], rfl, h1, h2, by simp, by omega, .inr ⟨by unfold readN; rw [if_pos h8], rfl, rfl⟩⟩
  · refine (rnumber_any w rb B A c bad l h (by omega) hl _ _ rfl rfl).mono ?_
    rintro e w' ⟨rfl, A', c', h1, h2⟩
    by_cases hv : 8388608 < val8 (l.take 8)
    · refine ⟨0, true, A', c', l.drop 8, by rw [if_pos hv]; rfl, ?_, h2, by rw [List.length_drop]; omega, by omega, .inr ⟨by unfold readN; rw [if_neg h8, if_pos hv], rfl, rfl⟩⟩
      rw [decide_eq_true hv, Bool.or_true] at h1
      exact h1
    · refine ⟨val8 (l.take 8), bad, A', c', l.drop 8, by rw [if_neg hv], ?_, h2, by rw [List.length_drop]; omega, by omega, .inl ⟨by unfold readN; rw [if_neg h8, if_neg hv], rfl⟩⟩
      rw [decide_eq_false hv, Bool.or_false] at h1
      exact h1
theorem RdrAt.conv {w : World} {rb B n : Nat} {A : Option Addr} {c : Nat} {bad : Bool} {l : Bs} (h : RdrAt w rb B A c bad l) (hn : n ≤ l.length) : (convert 69 9 (.slice A n c)).run Tryz.prog w = .ok (.string ⟨(l.take n).toArray⟩) w := by
  rcases h.at' with ⟨rfl, rfl, rfl⟩ | ⟨blk, off, rfl, h1, h2⟩
  · obtain rfl : n = 0 := by simpa using hn
    exact run_convert_bytes_nil (P := Tryz.prog) w 69 5 Tryz.underlying69 Tryz.underlying5 0 0 9 Tryz.underlying9
  · have e : (l.take n).length = n := by rw [List.length_take]; omega
    have := run_convert_bytes_back (P := Tryz.prog) w 69 9 5 ⟨blk, off, none⟩ c (l.take n) Tryz.underlying69 Tryz.underlying5 Tryz.underlying9 (fun j hj => by
      rw [Addr.add_lit]
      refine h2 j _ ?_
      rw [List.getElem?_eq_getElem (by rw [e] at hj; omega), List.getElem_take])
    rwa [e] at this
def TextR (l : Bs) (bad : Bool) (s : Bs) (bad' : Bool) (l' : Bs) : Prop := l'.length ≤ l.length ∧ s.length ≤ l.length ∧ ((readT l = some (s, l') ∧ bad' = bad) ∨ (readT l = none ∧ bad' = true))
set_option maxRecDepth 100000 in
set_option maxHeartbeats 1000000 in
theorem rtext_any (w : World) (rb B : Nat) (A : Option Addr) (c : Nat) (bad : Bool) (l : Bs) (h : RdrAt w rb B A c bad l) (hl : l.length ≤ 100000000) :
    Calls Tryz.prog 66 #[.pointer (some ⟨rb, 0, none⟩)] w fun e w' => ∃ s bad' A' c' l', e = .returned (.string ⟨s.toArray⟩) ∧ RdrAt w' rb B A' c' bad' l' ∧ Chg w w' (fun k => k = rb) ∧ TextR l bad s bad' l' := by
  have hn := rnum_any w rb B A c bad l h hl
  clear h
  go_enter Tryz.func66, Tryz.ntmps66
  go_wp2_with fail
  refine hn.mono ?_
  clear hn
  rintro e w1 ⟨n, bad1, A1, c1, l1, rfl, h1, hc1, hN⟩
  have hl1 := h1.le
  have hn8 := hN.2.1
  have hll1 := hN.1
  have p0 := h1.h.cell 0
  have p1 := h1.h.cell 1
  have f0 := h1.h.free 0
  have f1 := h1.h.free 1
  simp at p0 p1
  have H := Lib.hid (And.intro h1 (And.intro hc1 hN))
  clear h1 hc1 hN
  by_cases hbig : l1.length < n
  · have HX : Hid (RdrAt (w1.setCell ⟨rb, 1, none⟩ (.bool true)) rb B A1 c1 true l1) := Lib.hid (by
      have hk := H.out.1
      refine ⟨?_, hk.le, hk.lt, ?_⟩
      · have := hk.h.set 1 (.bool true)
        simpa using this
      · rcases hk.at' with h2 | ⟨blk, off, rfl, h2, h3⟩
        · exact .inl h2
        · exact .inr ⟨blk, off, rfl, h2, fun j b hb => (Chg.set w1 ⟨rb, 1, none⟩ (.bool true)).cell (p := ⟨blk, off + j, none⟩) (by show ¬ blk = rb; have := hk.lt; omega) (h3 j b hb)⟩)
    go_wp2_with fail
    go_ret
    refine ⟨[], true, A1, c1, l1, rfl, HX.out, H.out.2.1.trans (Chg.set _ _ _) (fun _ _ h => h), hll1, by simp, .inr ⟨?_, rfl⟩⟩
    unfold readT
    rcases H.out.2.2.2.2 with ⟨h2, _⟩ | ⟨h2, _, _⟩
    · rw [h2]
      simp only [Option.bind_some]
      rw [if_pos hbig]
    · rw [h2]; rfl
  · have hnl : n ≤ l1.length := by omega
    have hcv := H.out.1.conv hnl
    have hfin : ∀ s', s' = l1.take n → ∀ bad' l', bad' = bad1 → l' = l1.drop n → TextR l bad s' bad' l' := by
      rintro s' rfl bad' l' rfl rfl
      refine ⟨by rw [List.length_drop]; omega, by rw [List.length_take]; omega, ?_⟩
      rcases H.out.2.2.2.2 with ⟨h2, h3⟩ | ⟨h2, rfl, h3⟩
      · refine .inl ⟨?_, h3⟩
        unfold readT
        rw [h2]
        simp only [Option.bind_some]
        rw [if_neg (by omega)]
      · refine .inr ⟨?_, h3⟩
        unfold readT
        rw [h2]; rfl
    have HF := Lib.hid hfin
    clear hfin
    rcases H.out.1.at' with ⟨rfl, hl0, rfl⟩ | ⟨blk, off, rfl, hlB, _⟩
    · have hl0' := congrArg List.length hl0
      simp only [List.length_nil] at hl0'
      obtain rfl : n = 0 := by omega
      have HX : Hid (RdrAt (w1.setCell ⟨rb, 0, none⟩ (.slice none 0 0)) rb B none 0 bad1 (l1.drop 0)) := Lib.hid (by
        have hk := H.out.1
        refine ⟨?_, by rw [List.length_drop]; omega, hk.lt, .inl ⟨rfl, by rw [hl0]; rfl, rfl⟩⟩
        have := hk.h.set 0 (.slice none 0 0)
        rw [List.length_drop, hl0']
        simpa using this)
      have HL0 := Lib.hid hl0
      clear hl0
      rw [hl0'] at p0
      go_wp2_with fail
      go_ret
      exact ⟨_, _, _, _, _, rfl, HX.out, H.out.2.1.trans (Chg.set _ _ _) (fun _ _ h => h), HF.out _ rfl _ _ rfl rfl⟩
    · by_cases hcn : c1 = n
      · subst hcn
        have hle : l1.length = c1 := by omega
        have HX : Hid (RdrAt (w1.setCell ⟨rb, 0, none⟩ (.slice (some ⟨blk, off, none⟩) 0 0)) rb B (some ⟨blk, off, none⟩) 0 bad1 (l1.drop c1)) := Lib.hid (by
          refine H.out.1.drop hnl (.inr ⟨rfl, rfl⟩) ?_ (Chg.set _ _ _)
          have := H.out.1.h.set 0 (.slice (some ⟨blk, off, none⟩) 0 0)
          rw [hle, Nat.sub_self]
          simpa using this)
        have HLE := Lib.hid hle
        clear hle
        go_wp2_with fail
        go_ret
        exact ⟨_, _, _, _, _, rfl, HX.out, H.out.2.1.trans (Chg.set _ _ _) (fun _ _ h => h), HF.out _ rfl _ _ rfl rfl⟩
      · have hlt : n < c1 := by omega
        have HX : Hid (RdrAt (w1.setCell ⟨rb, 0, none⟩ (.slice (some ⟨blk, off + n, none⟩) (l1.length - n) (c1 - n))) rb B (some ⟨blk, off + n, none⟩) (c1 - n) bad1 (l1.drop n)) := Lib.hid (by
          refine H.out.1.drop hnl (.inl ⟨hlt, rfl, rfl⟩) ?_ (Chg.set _ _ _)
          have := H.out.1.h.set 0 (.slice (some ⟨blk, off + n, none⟩) (l1.length - n) (c1 - n))
          simpa using this)
        go_wp2_with fail
        go_ret
        exact ⟨_, _, _, _, _, rfl, HX.out, H.out.2.1.trans (Chg.set _ _ _) (fun _ _ h => h), HF.out _ rfl _ _ rfl rfl⟩
end Go.Proofs.YtmldpehkacemfaaGreatDoor
namespace Go.Proofs.YtmldpehkacemfaaGreatDoor
open Go.RowKit Go.Bd
def rowFl (l : List (ByteArray × Bs)) : List Value := l.flatMap fun f => [.string f.1, .string ⟨f.2.toArray⟩]
theorem rowFl_snoc (l : List (ByteArray × Bs)) (f : ByteArray × Bs) : rowFl (l ++ [f]) = rowFl l ++ [.string f.1, .string ⟨f.2.toArray⟩] := by simp [rowFl]
theorem own_monoN {w : World} {base base' sz n : Nat} {e : TypeId} {v : Value} {xs : List Value} (h : w.ownsRow base e sz v n xs) (hb : base' ≤ base) : w.ownsRow base' e sz v n xs := by
  refine ⟨h.1, ?_⟩
  rcases h.2 with h1 | ⟨g, cap, cur, h1, h2, h3⟩
  · exact .inl h1
  · exact .inr ⟨g, cap, cur, h1, Nat.le_trans hb h2, h3⟩
theorem holds_later {W W' : World} {g : Nat} {t : TypeId} {cs : Array Value} (h : Holds W g t cs) (hb : Below W.heap.size W W') : Holds W' g t cs := (Chg.below hb (fun _ => False)).holds (fun h => h) h
theorem name_world' {α : Sort _} {K : α → World → Prop} {a : α} {W : World} (h : ∀ W', W' = W → K a W') : K a W := h W rfl
theorem str_info : (Tryz.prog.info? 9).map (fun i => (i.zero, i.size, i.bytes)) = some (some (.string ⟨#[]⟩), 1, 16) := by kernel_rfl
theorem file_info : (Tryz.prog.info? 50).map (fun i => (i.zero, i.size, i.bytes)) = some (some (.agg #[.string ⟨#[]⟩, .string ⟨#[]⟩]), 2, 32) := by kernel_rfl
structure RS (w0 : World) (B pb rb : Nat) (A : Option Addr) (c : Nat) (bad : Bool) (l : Bs) (rv wv : Value) (acc : List ByteArray) (acc2 : List (ByteArray × Bs)) (W : World) : Prop where
  rd : RdrAt W rb B A c bad l
  pl : Holds W pb 64 #[rv, wv]
  rr : W.ownsRow (rb + 1) 9 1 rv acc.length (acc.map .string)
  ww : W.ownsRow (rb + 1) 50 2 wv acc2.length (rowFl acc2)
  ap : ∀ k, rv.ownBlock = some k → wv.ownBlock ≠ some k
  bl : Below B w0 W
  re : Holds W B 64 #[.slice none 0 0, .slice none 0 0]
  lt : B < pb ∧ pb < rb ∧ B ≤ w0.heap.size
section
variable {w0 W W' : World} {B pb rb : Nat} {A A' : Option Addr} {c c' : Nat} {bad bad' : Bool} {l l' : Bs} {rv wv : Value} {acc : List ByteArray} {acc2 : List (ByteArray × Bs)}
theorem RS.later (h : RS w0 B pb rb A c bad l rv wv acc acc2 W) (hb : Below W.heap.size W W') : RS w0 B pb rb A c bad l rv wv acc acc2 W' := by
  have hc := Chg.below hb (fun _ => False)
  exact ⟨h.rd.chg hc (fun h => h) (fun _ _ h => h), hc.holds (fun h => h) h.pl, hc.owns h.rr (fun _ _ h => h), hc.owns h.ww (fun _ _ h => h), h.ap, h.bl.trans (hb.mono (by have := h.bl.size; have := h.lt; omega)), hc.holds (fun h => h) h.re, h.lt⟩
theorem RS.drew (h : RS w0 B pb rb A c bad l rv wv acc acc2 W) : RS w0 B pb rb A c bad l rv wv acc acc2 W.drew := h.later ((Below.refl _ _).drew)
theorem RS.call (h : RS w0 B pb rb A c bad l rv wv acc acc2 W) (hr : RdrAt W' rb B A' c' bad' l') (hc : Chg W W' (fun k => k = rb)) : RS w0 B pb rb A' c' bad' l' rv wv acc acc2 W' := by
  have hl := h.lt
  exact ⟨hr, hc.holds (by omega) h.pl, hc.owns h.rr (fun k hk e => by have := (h.rr.lt k hk).1; omega), hc.owns h.ww (fun k hk e => by have := (h.ww.lt k hk).1; omega), h.ap, h.bl.trans (hc.toBelow (by have := h.bl.size; omega) (fun k e => by omega)), hc.holds (by omega) h.re, hl⟩
theorem RS.heap (h : RS w0 B pb rb A c bad l rv wv acc acc2 W) : rb + 1 ≤ W.heap.size := h.rd.h.lt
theorem RS.addR (h : RS w0 B pb rb A c bad l rv wv acc acc2 W) {s : ByteArray} {g cap : Nat} (ho : W'.ownsRow (rb + 1) 9 1 (.slice (some ⟨g, 0, none⟩) (acc.length + 1) cap) (acc.length + 1) (acc.map .string ++ [.string s])) (hg : W.grownBy W' rv.ownBlock) (hat : rv.ownBlock = some g ∨ g = W.heap.size) :
    Holds W' pb 64 #[rv, wv] ∧ RS w0 B pb rb A c bad l (.slice (some ⟨g, 0, none⟩) (acc.length + 1) cap) wv (acc ++ [s]) acc2 (W'.setCell ⟨pb, 0, none⟩ (.slice (some ⟨g, 0, none⟩) (acc.length + 1) cap)) := by
  have hl := h.lt
  have hh := h.heap
  have hc := Chg.grown hg
  have hown : ∀ k, some k = rv.ownBlock → rb < k := fun k hk => by have := (h.rr.lt k hk.symm).1; omega
  have hP := hc.holds (fun e => by have := hown _ e; omega) h.pl
  have hc2 : Chg W (W'.setCell ⟨pb, 0, none⟩ (.slice (some ⟨g, 0, none⟩) (acc.length + 1) cap)) (fun k => k = pb ∨ some k = rv.ownBlock) := (hc.mono (fun _ _ h => .inr h)).trans (Chg.set W' ⟨pb, 0, none⟩ _) (fun _ _ h => .inl h)
  have hgp : g ≠ pb := fun e => by
    rcases hat with h1 | h1
    · have := hown _ h1.symm; omega
    · omega
  refine ⟨hP, ⟨h.rd.chg hc2 (fun e => ?_) (fun k hk e => ?_), ?_, ?_, hc2.owns h.ww (fun k hk e => ?_), fun k hk e => ?_, h.bl.trans (hc2.toBelow (by have := h.bl.size; omega) (fun k e => ?_)), hc2.holds (fun e => ?_) h.re, hl⟩⟩
  · rcases e with e | e
    · omega
    · have := hown _ e; omega
  · rcases e with e | e
    · omega
    · have := hown _ e; omega
  · have := hP.set 0 (.slice (some ⟨g, 0, none⟩) (acc.length + 1) cap)
    simpa using this
  · have h1 := (Chg.set W' ⟨pb, 0, none⟩ (.slice (some ⟨g, 0, none⟩) (acc.length + 1) cap)).owns ho (fun k hk e => hgp ((show g = k by simpa [Value.ownBlock] using hk).trans e))
    rw [List.length_append, List.length_singleton, List.map_append]
    exact h1
  · rcases e with e | e
    · have := (h.ww.lt k hk).1; omega
    · exact h.ap k e.symm hk
  · have e1 : g = k := by simpa [Value.ownBlock] using hk
    subst e1
    rcases hat with h1 | h1
    · exact h.ap g h1 e
    · have := (h.ww.lt g e).2; omega
  · rcases e with e | e
    · omega
    · have := hown _ e; omega
  · rcases e with e | e
    · omega
    · have := hown _ e; omega
theorem RS.addW (h : RS w0 B pb rb A c bad l rv wv acc acc2 W) {f : ByteArray × Bs} {g cap : Nat} (ho : W'.ownsRow (rb + 1) 50 2 (.slice (some ⟨g, 0, none⟩) (acc2.length + 1) cap) (acc2.length + 1) (rowFl acc2 ++ [.string f.1, .string ⟨f.2.toArray⟩])) (hg : W.grownBy W' wv.ownBlock) (hat : wv.ownBlock = some g ∨ g = W.heap.size) :
    Holds W' pb 64 #[rv, wv] ∧ RS w0 B pb rb A c bad l rv (.slice (some ⟨g, 0, none⟩) (acc2.length + 1) cap) acc (acc2 ++ [f]) (W'.setCell ⟨pb, 1, none⟩ (.slice (some ⟨g, 0, none⟩) (acc2.length + 1) cap)) := by
  have hl := h.lt
  have hh := h.heap
  have hc := Chg.grown hg
  have hown : ∀ k, some k = wv.ownBlock → rb < k := fun k hk => by have := (h.ww.lt k hk.symm).1; omega
  have hP := hc.holds (fun e => by have := hown _ e; omega) h.pl
  have hc2 : Chg W (W'.setCell ⟨pb, 1, none⟩ (.slice (some ⟨g, 0, none⟩) (acc2.length + 1) cap)) (fun k => k = pb ∨ some k = wv.ownBlock) := (hc.mono (fun _ _ h => .inr h)).trans (Chg.set W' ⟨pb, 1, none⟩ _) (fun _ _ h => .inl h)
  have hgp : g ≠ pb := fun e => by
    rcases hat with h1 | h1
    · have := hown _ h1.symm; omega
    · omega
  refine ⟨hP, ⟨h.rd.chg hc2 (fun e => ?_) (fun k hk e => ?_), ?_, hc2.owns h.rr (fun k hk e => ?_), ?_, fun k hk e => ?_, h.bl.trans (hc2.toBelow (by have := h.bl.size; omega) (fun k e => ?_)), hc2.holds (fun e => ?_) h.re, hl⟩⟩
  · rcases e with e | e
    · omega
    · have := hown _ e; omega
  · rcases e with e | e
    · omega
    · have := hown _ e; omega
  · have := hP.set 1 (.slice (some ⟨g, 0, none⟩) (acc2.length + 1) cap)
    simpa using this
  · rcases e with e | e
    · have := (h.rr.lt k hk).1; omega
    · exact h.ap k hk e.symm
  · have h1 := (Chg.set W' ⟨pb, 1, none⟩ (.slice (some ⟨g, 0, none⟩) (acc2.length + 1) cap)).owns ho (fun k hk e => hgp ((show g = k by simpa [Value.ownBlock] using hk).trans e))
    rw [List.length_append, List.length_singleton, rowFl_snoc]
    exact h1
  · have e1 : g = k := by simpa [Value.ownBlock] using e
    subst e1
    rcases hat with h1 | h1
    · exact h.ap g hk h1
    · have := (h.rr.lt g hk).2; omega
  · rcases e with e | e
    · omega
    · have := hown _ e; omega
  · rcases e with e | e
    · omega
    · have := hown _ e; omega
theorem RS.ret (h : RS w0 B pb rb A c bad l rv wv acc acc2 W) (x y : Value) : Below B w0 ((W.setCell ⟨B, 0, none⟩ x).setCell ⟨B, 1, none⟩ y) ∧ Holds ((W.setCell ⟨B, 0, none⟩ x).setCell ⟨B, 1, none⟩ y) B 64 #[x, y] ∧
    ((W.setCell ⟨B, 0, none⟩ x).setCell ⟨B, 1, none⟩ y).ownsRow B 9 1 rv acc.length (acc.map .string) ∧ ((W.setCell ⟨B, 0, none⟩ x).setCell ⟨B, 1, none⟩ y).ownsRow B 50 2 wv acc2.length (rowFl acc2) := by
  have hl := h.lt
  have hc : Chg W ((W.setCell ⟨B, 0, none⟩ x).setCell ⟨B, 1, none⟩ y) (fun k => k = B) := (Chg.set W ⟨B, 0, none⟩ _).trans (Chg.set _ ⟨B, 1, none⟩ _) (fun k _ (e : k = B) => e)
  have hs := (h.re.set 0 x).set 1 y
  refine ⟨h.bl.trans (hc.toBelow (by have := h.bl.size; omega) (fun k (e : k = B) => by omega)), by simpa using hs, own_monoN (base := rb + 1) (hc.owns h.rr (fun k hk (e : k = B) => by have := (h.rr.lt k hk).1; omega)) (by omega), own_monoN (base := rb + 1) (hc.owns h.ww (fun k hk (e : k = B) => by have := (h.ww.lt k hk).1; omega)) (by omega)⟩
end
theorem plan_size : (Tryz.prog.info? 64).map (·.size) = some (2 : Nat) := by kernel_rfl
theorem results_row_tmp {P : Program} {fn : Func} {p u : Tmp} {ty : TypeId} (h : fn.results = #[.cell p ty, .tmp u]) (tmps : Array Value) (w : World) (g : Nat) (t : TypeId) (cs : Array Value) (fr : Nat × Nat) (d : TypeDesc)
    (hp : tmps.getD p undef = .pointer (some ⟨g, 0, none⟩)) (hg : w.heap[g]? = some (.cells cs t fr))
    (hu : P.underlying ty = some d) (hd : (match d with | .struct _ | .array _ _ => true | _ => false) = true) (hi : (P.info? ty).map (·.size) = some cs.size) :
    (results fn tmps).run P w = .ok (.tuple #[.agg cs, tmps.getD u undef]) w := by
  rw [results_cell_tmp h, hp]
  simp [asAddr, run_loadVar_row w g t ty cs fr d hg hu hd hi, Result.andThen]
def St1 (P : Option Plan) (q : Nat) (bad : Bool) (l : Bs) (acc : List ByteArray) : Prop := (bad = true ∧ P = none) ∨ (bad = false ∧ P = (readTs q l).bind fun r => (readN r.2).bind fun t => (readFs t.1 t.2).bind fun u => if u.2 = [] then some ⟨acc ++ r.1, u.1⟩ else none)
def St2 (P : Option Plan) (q : Nat) (bad : Bool) (l : Bs) (acc : List ByteArray) (acc2 : List (ByteArray × Bs)) : Prop := (bad = true ∧ P = none) ∨ (bad = false ∧ P = (readFs q l).bind fun u => if u.2 = [] then some ⟨acc, acc2 ++ u.1⟩ else none)
section
variable {P : Option Plan} {n q : Nat} {b l l' l1 l2 s t : Bs} {bad bad1 bad2 bad' : Bool} {acc : List ByteArray} {acc2 : List (ByteArray × Bs)}
theorem readP_short {bad1 : Bool} (h : NumR b false n bad1 l1) (hn : n ≠ b.length ∨ bad1 = true) : readP b = none := by
  unfold readP
  rcases h.2.2 with ⟨h1, h2⟩ | ⟨h1, _, _⟩
  · rw [h1]
    rcases hn with h3 | h3
    · simp only [Option.bind_some]
      rw [if_pos h3]
    · rw [h2] at h3; cases h3
  · rw [h1]; rfl
theorem St1.first (h : NumR b false b.length false l1) (h2 : NumR l1 false n bad' l2) : St1 (readP b) n bad' l2 [] := by
  unfold readP St1
  rcases h.2.2 with ⟨h1, _⟩ | ⟨_, _, h1⟩
  · rw [h1]
    simp only [Option.bind_some]
    rw [if_neg (by simp)]
    rcases h2.2.2 with ⟨h3, rfl⟩ | ⟨h3, _, rfl⟩
    · rw [h3]
      exact .inr ⟨rfl, rfl⟩
    · rw [h3]
      exact .inl ⟨rfl, rfl⟩
  · cases h1
theorem St1.next (h : St1 P (q + 1) false l acc) (ht : TextR l false s bad' l') : St1 P q bad' l' (acc ++ [⟨s.toArray⟩]) := by
  rcases h with ⟨h, _⟩ | ⟨_, rfl⟩
  · cases h
  · unfold St1
    rw [readTs]
    rcases ht.2.2 with ⟨h1, rfl⟩ | ⟨h1, rfl⟩
    · rw [h1]
      refine .inr ⟨rfl, ?_⟩
      simp only [Option.bind_some]
      cases readTs q l' with
      | none => rfl
      | some r => simp
    · rw [h1]
      exact .inl ⟨rfl, rfl⟩
theorem St1.num (h : St1 P q bad l acc) (hq : q = 0 ∨ bad = true) (hn : NumR l bad n bad' l') : St2 P n bad' l' acc [] := by
  rcases h with ⟨rfl, rfl⟩ | ⟨rfl, rfl⟩
  · refine .inl ⟨?_, rfl⟩
    rcases hn.2.2 with ⟨_, h⟩ | ⟨_, _, h⟩ <;> exact h
  · obtain rfl : q = 0 := by
      rcases hq with h | h
      · exact h
      · cases h
    unfold St2 readTs
    simp only [Option.bind_some, List.append_nil]
    rcases hn.2.2 with ⟨h1, rfl⟩ | ⟨h1, _, rfl⟩
    · rw [h1]
      exact .inr ⟨rfl, by simp⟩
    · rw [h1]
      exact .inl ⟨rfl, rfl⟩
theorem St2.next (h : St2 P (q + 1) false l acc acc2) (ht : TextR l false s bad1 l1) (hu : TextR l1 bad1 t bad2 l2) : St2 P q bad2 l2 acc (acc2 ++ [(⟨s.toArray⟩, t)]) := by
  rcases h with ⟨h, _⟩ | ⟨_, rfl⟩
  · cases h
  · unfold St2
    rw [readFs]
    rcases ht.2.2 with ⟨h1, rfl⟩ | ⟨h1, rfl⟩
    · rw [h1]
      simp only [Option.bind_some]
      rcases hu.2.2 with ⟨h3, rfl⟩ | ⟨h3, rfl⟩
      · rw [h3]
        refine .inr ⟨rfl, ?_⟩
        simp only [Option.bind_some]
        cases readFs q l2 with
        | none => rfl
        | some r => simp
      · rw [h3]
        exact .inl ⟨rfl, rfl⟩
    · rw [h1]
      refine .inl ⟨?_, rfl⟩
      rcases hu.2.2 with ⟨_, h4⟩ | ⟨_, h4⟩ <;> exact h4
theorem St2.bad_ (h : St2 P q true l acc acc2) : P = none := by
  rcases h with ⟨_, h⟩ | ⟨h, _⟩
  · exact h
  · cases h
theorem St2.more (h : St2 P 0 bad l acc acc2) (hl : 0 < l.length) : P = none := by
  rcases h with ⟨_, h⟩ | ⟨_, h⟩
  · exact h
  · rw [h, readFs]
    simp only [Option.bind_some]
    rw [if_neg (by rintro rfl; simp at hl)]
theorem St2.whole (h : St2 P 0 false l acc acc2) (hl : l.length = 0) : P = some ⟨acc, acc2⟩ := by
  rcases h with ⟨h, _⟩ | ⟨_, h⟩
  · cases h
  · rw [h, readFs]
    simp only [Option.bind_some]
    rw [if_pos (List.length_eq_zero_iff.1 hl), List.append_nil]
end
end Go.Proofs.YtmldpehkacemfaaGreatDoor
namespace Go.Proofs.YtmldpehkacemfaaGreatDoor
open Go.RowKit Go.Bd
set_option maxRecDepth 100000 in
set_option maxHeartbeats 4000000 in
theorem plan_read (w : World) (A : Option Addr) (c : Nat) (b : Bs) (hA : (A = none ∧ b = [] ∧ c = 0) ∨ ∃ blk off, A = some ⟨blk, off, none⟩ ∧ blk < w.heap.size ∧ ∀ (j : Nat) x, b[j]? = some x → w.cell? ⟨blk, off + j, none⟩ = some (.int .u8 (x.toNat : Int))) (hc : b.length ≤ c) (hl : b.length ≤ 100000000) :
    Calls Tryz.prog 44 #[.slice A b.length c] w fun e w' => Below w.heap.size w w' ∧ ((∃ p rv wv, readP b = some p ∧ e = .returned (.tuple #[.agg #[rv, wv], .bool true]) ∧ w'.ownsRow w.heap.size 9 1 rv p.rm.length (p.rm.map .string) ∧ w'.ownsRow w.heap.size 50 2 wv p.wr.length (rowFl p.wr) ∧ p.rm.length ≤ 8388608 ∧ p.wr.length ≤ 8388608) ∨
      (readP b = none ∧ e = .returned (.tuple #[.agg #[.slice none 0 0, .slice none 0 0], .bool false]))) := by
  obtain ⟨ir, hir, hr1, hr2, hr3⟩ := info_parts str_info
  obtain ⟨iw, hiw, hw1, hw2, hw3⟩ := info_parts file_info
  have HI := Lib.hid (And.intro hir (And.intro hr1 (And.intro hr2 hr3)))
  have HJ := Lib.hid (And.intro hiw (And.intro hw1 (And.intro hw2 hw3)))
  clear hir hr1 hr2 hr3 hiw hw1 hw2 hw3
  obtain ⟨B, hB⟩ : ∃ B, w.heap.size = B := ⟨_, rfl⟩
  have hR0 : RS w B (B + 1) (B + 2) A c false b (.slice none 0 0) (.slice none 0 0) [] [] (((w.alloc (.cells #[.slice none 0 0, .slice none 0 0] 64)).alloc (.cells #[.slice none 0 0, .slice none 0 0] 64)).alloc (.cells #[.slice A b.length c, .bool false] 120)) := by
    have e1 := (Holds.new w 64 #[.slice none 0 0, .slice none 0 0])
    have e2 := (Holds.new (w.alloc (.cells #[.slice none 0 0, .slice none 0 0] 64)) 64 #[.slice none 0 0, .slice none 0 0])
    have e3 := (Holds.new ((w.alloc (.cells #[.slice none 0 0, .slice none 0 0] 64)).alloc (.cells #[.slice none 0 0, .slice none 0 0] 64)) 120 #[.slice A b.length c, .bool false])
    have hbl : Below w.heap.size w (((w.alloc (.cells #[.slice none 0 0, .slice none 0 0] 64)).alloc (.cells #[.slice none 0 0, .slice none 0 0] 64)).alloc (.cells #[.slice A b.length c, .bool false] 120)) := (((Below.refl _ w).alloc (Nat.le_refl _) _).alloc (by simp) _).alloc (by simp; omega) _
    simp only [World.size_alloc] at e2 e3
    rw [hB] at e1 e2 e3
    refine ⟨⟨e3, hc, by omega, ?_⟩, (e2.alloc _), World.ownsRow_nil _ _ _ _, World.ownsRow_nil _ _ _ _, (fun k hk => by cases hk), hB ▸ hbl, (e1.alloc _).alloc _, by omega, by omega, by omega⟩
    rcases hA with h1 | ⟨blk, off, h1, h2, h3⟩
    · exact .inl h1
    · exact .inr ⟨blk, off, h1, by omega, fun j x hx => (hbl.cell (p := ⟨blk, off + j, none⟩) h2).trans (h3 j x hx)⟩
  obtain ⟨W3, hW3⟩ : ∃ W3, (((w.alloc (.cells #[.slice none 0 0, .slice none 0 0] 64)).alloc (.cells #[.slice none 0 0, .slice none 0 0] 64)).alloc (.cells #[.slice A b.length c, .bool false] 120)) = W3 := ⟨_, rfl⟩
  rw [hW3] at hR0
  have hn := rnum_any W3 (B + 2) B A c false b hR0.rd (by omega)
  have HR0 := Lib.hid hR0
  have HB := Lib.hid hB
  rw [hB]
  clear hR0 hA
  go_enter Tryz.func44, Tryz.ntmps44
  go_wp2_with fail
  (try rw [hW3])
  (try rw [hB])
  clear hW3 hB
  refine hn.mono ?_
  clear hn
  rintro e w1 ⟨n, bad1, A1, c1, l1, rfl, h1, hc1, hN1⟩
  have R1 := HR0.out.call h1 hc1
  have hN18 := hN1.2.1
  have hl1 := hN1.1
  clear h1 hc1
  have q1 := R1.rd.h.cell 1
  have z0 := R1.re.cell 0
  have z1 := R1.re.cell 1
  have zf0 := R1.re.free 0
  have zf1 := R1.re.free 1
  simp at q1 z0 z1
  have HN1 := Lib.hid hN1
  clear hN1
  by_cases hbad : n ≠ b.length ∨ bad1 = true
  · have hnone := Lib.hid (readP_short HN1.out hbad)
    have HF := Lib.hid (R1.ret (.slice none 0 0) (.slice none 0 0))
    have HR1 := Lib.hid R1
    clear R1
    by_cases hnb : n = b.length
    · have hb1 : bad1 = true := by
        rcases hbad with h | h
        · exact absurd hnb h
        · exact h
      subst hb1
      subst hnb
      clear hbad
      go_wp2_with fail
      (try simp only [Exit.inBlock, Exit.then])
      refine bodyPost_ret (results_row_tmp rfl _ _ B _ _ _ _ rfl HF.out.2.1 Tryz.underlying64 rfl plan_size) rfl ?_
      exact ⟨HF.out.1, .inr ⟨hnone.out, rfl⟩⟩
    · clear hbad
      go_wp2_with fail
      (try simp only [Exit.inBlock, Exit.then])
      refine bodyPost_ret (results_row_tmp rfl _ _ B _ _ _ _ rfl HF.out.2.1 Tryz.underlying64 rfl plan_size) rfl ?_
      exact ⟨HF.out.1, .inr ⟨hnone.out, rfl⟩⟩
  · obtain ⟨hnb, hb1⟩ : n = b.length ∧ bad1 = false := by
      refine ⟨Classical.byContradiction fun h => hbad (.inl h), ?_⟩
      cases bad1 with
      | false => rfl
      | true => exact absurd (.inr rfl) hbad
    subst hb1
    subst hnb
    clear hbad
    have hn2 := rnum_any w1 (B + 2) B A1 c1 false l1 R1.rd (by omega)
    have HR1 := Lib.hid R1
    have HN2 := Lib.hid hn2
    clear R1 hn2 z0 z1 zf0 zf1
    go_wp2_with fail
    refine HN2.out.mono ?_
    rintro e w2 ⟨n1, bad2, A2, c2, l2, rfl, h2, hc2, hN2⟩
    have R2 := HR1.out.call h2 hc2
    have hS1 := Lib.hid (St1.first HN1.out hN2)
    have hn18 := hN2.2.1
    have hl2 := hN2.1
    have HR2 := Lib.hid R2
    clear h2 hc2 hN2 R2 q1
    go_wp2_with fail
    go_loopg [6] n1 (fun q nv wr => ∃ (A : Option Addr) (c : Nat) (bad : Bool) (l : Bs) (rv : Value) (acc : List ByteArray), nv = .int .i64 (q : Int) ∧ acc.length + q = n1 ∧ l.length ≤ b.length ∧ Hid (RS w B (B + 1) (B + 2) A c bad l rv (.slice none 0 0) acc [] wr ∧ St1 (readP b) q bad l acc))
    case atStart => exact ⟨A2, c2, bad2, l2, .slice none 0 0, [], rfl, by simp, by omega, Lib.hid ⟨HR2.out, hS1.out⟩⟩
    case round =>
      obtain ⟨A3, c3, bad3, l3, rv3, acc, rfl, hacc, hl3, HS⟩ := hrel
      have q3 := HS.out.1.rd.h.cell 1
      simp at q3
      by_cases hgo : 0 < gk ∧ bad3 = false
      · obtain ⟨hg0, rfl⟩ := hgo
        obtain ⟨q, rfl⟩ : ∃ q, gk = q + 1 := ⟨gk - 1, by omega⟩
        obtain ⟨rA, rc, rfl, _⟩ := own_slice2 HS.out.1.rr
        obtain ⟨wv, hwv⟩ : ∃ x, x = wr := ⟨_, rfl⟩
        subst hwv
        have hA := HS.out.1
        go_wp2_with fail
        refine wp_region_held_drew (S := (fun _ => True)) (by kernel_rfl) ?_ (fun hHeld0 => ?_)
        · (try dsimp only)
          first | done | trivial
        refine wpAnyH_take (i := 0) (oi := ⟨some 37, _, _, _, _, _⟩) (v := ?_) rfl (by kernel_rfl) (by kernel_rfl) (by kernel_rfl) (fun _ _ _ h => h) (Or.inl ⟨by kernel_rfl, ?_⟩) (by assumption) ?_
        rotate_left
        · (intro w hSw; (try dsimp only at hSw); go_simp; (first | done | with_reducible rfl))
        (try simp only [Act.put, List.setIfInBounds_toArray, List.set_cons_zero, List.set_cons_succ])
        refine wpAnyH_take (i := 2) (oi := ⟨some 39, _, _, _, _, _⟩) (v := ?_) rfl (by kernel_rfl) (by kernel_rfl) (by kernel_rfl) (fun _ _ _ h => h) (Or.inl ⟨by kernel_rfl, ?_⟩) (by assumption) ?_
        rotate_left
        · (intro w hSw; (try dsimp only at hSw); go_simp; (first | done | with_reducible rfl))
        (try simp only [Act.put, List.setIfInBounds_toArray, List.set_cons_zero, List.set_cons_succ])
        refine wpAnyH_ready (rs := [1, 3]) (by kernel_rfl) (by simp) ?_
        refine AllReadyH.cons (o := ⟨some 38, _, _, _, _, _⟩) rfl (fun K hK => ?_) ?_
        · skip
          have x0 := hA.pl.cell 0
          simp at x0
          go_simp
          refine name_world' ?_
          intro w8 hw8
          have hA8 := hA.later (W' := w8) (by
            rw [hw8]
            first | exact Below.refl _ _ | exact (Below.refl _ _).drew | exact (Below.refl _ _).alloc (Nat.le_refl _) _ | exact ((Below.refl _ _).alloc (Nat.le_refl _) _).drew | exact ((Below.refl _ _).drew).alloc (Nat.le_refl _) _ | exact (((Below.refl _ _).drew).alloc (Nat.le_refl _) _).drew
            )
          (try replace hN := holds_later (W' := w8) hN (by
            rw [hw8]
            first | exact Below.refl _ _ | exact (Below.refl _ _).drew | exact (Below.refl _ _).alloc (Nat.le_refl _) _ | exact ((Below.refl _ _).alloc (Nat.le_refl _) _).drew | exact ((Below.refl _ _).drew).alloc (Nat.le_refl _) _ | exact (((Below.refl _ _).drew).alloc (Nat.le_refl _) _).drew
            ))
          clear hw8
          replace hA := hA8
          clear hA8
          obtain ⟨wv, hwv⟩ : ∃ x, x = w8 := ⟨_, rfl⟩
          subst hwv
          clear x0
          refine hK.out _ _ ?_ (fun hHeld1 => ?_)
          · (try dsimp only)
            first | done | trivial
          clear hK K hHeld0
          (try simp only [Act.put, List.setIfInBounds_toArray, List.set_cons_zero, List.set_cons_succ])
          refine wpAnyH_ready (rs := [3]) (by kernel_rfl) (by simp) ?_
          refine AllReadyH.cons (o := ⟨some 40, _, _, _, _, _⟩) rfl (fun K hK => ?_) AllReadyH.nil
          go_simp
          first
          | refine (rtext_any _ _ _ _ _ _ _ hA.rd (by omega)).mono ?_
          | (replace hA := hA.drew; refine (rtext_any _ _ _ _ _ _ _ hA.rd (by omega)).mono ?_)
          rintro e wv ⟨s, bad5, A5, c5, l5, rfl, h5, hc5, hT5⟩
          replace hA := hA.call h5 hc5
          have hl5 := hT5.1
          have HT5 := Lib.hid hT5
          clear h5 hc5 hT5
          refine hK.out _ _ ?_ (fun hHeld2 => ?_)
          · (try dsimp only)
            first | done | trivial
          clear hK K hHeld1
          (try simp only [Act.put, List.setIfInBounds_toArray, List.set_cons_zero, List.set_cons_succ])
          refine wpAnyH_ready (rs := [4]) (by kernel_rfl) (by simp) ?_
          refine AllReadyH.cons (o := ⟨some 41, _, _, _, _, _⟩) rfl (fun K hK => ?_) AllReadyH.nil
          go_simp
          refine name_world' ?_
          intro w8 hw8
          have hA8 := hA.later (W' := w8) (by
            rw [hw8]
            first | exact Below.refl _ _ | exact (Below.refl _ _).drew | exact (Below.refl _ _).alloc (Nat.le_refl _) _ | exact ((Below.refl _ _).alloc (Nat.le_refl _) _).drew | exact ((Below.refl _ _).drew).alloc (Nat.le_refl _) _ | exact (((Below.refl _ _).drew).alloc (Nat.le_refl _) _).drew
            )
          have hN : Holds w8 wv.heap.size 9 #[.string ⟨s.toArray⟩] := by
            rw [hw8]
            first | exact Holds.new _ _ _ | exact (Holds.new _ _ _).drew | exact Holds.new wv.drew _ _ | exact (Holds.new wv.drew _ _).drew
          obtain ⟨n9, hn9⟩ : ∃ n9, wv.heap.size = n9 := ⟨_, rfl⟩
          rw [hn9] at hN
          (try rw [hn9])
          clear hn9 hw8
          replace hA := hA8
          clear hA8
          obtain ⟨wv, hwv⟩ : ∃ x, x = w8 := ⟨_, rfl⟩
          subst hwv
          refine hK.out _ _ ?_ (fun hHeld3 => ?_)
          · (try dsimp only)
            first | done | trivial
          clear hK K hHeld2
          (try simp only [Act.put, List.setIfInBounds_toArray, List.set_cons_zero, List.set_cons_succ])
          refine wpAnyH_ready (rs := [5]) (by kernel_rfl) (by simp) ?_
          refine AllReadyH.cons (o := ⟨some 42, _, _, _, _, _⟩) rfl (fun K hK => ?_) AllReadyH.nil
          first
          | refine step_append_lies _ (by rfl) _ _ _ (by rfl) (B + 2 + 1) 9 ir _ 1 16 Tryz.underlying40 HI.out.1 HI.out.2.1 HI.out.2.2.1 HI.out.2.2.2 rfl (by omega) (.slice rA acc.length rc) acc.length (acc.map .string) (by rfl) hA.rr ⟨n9, 0, none⟩ 1 1 [.string ⟨s.toArray⟩] (by rfl) (by rfl) (World.news_of_block (cs := #[.string ⟨s.toArray⟩]) (t := 9) (fr := (0, 0)) hN) (by simp [Value.oneCell']) (by omega) (by unfold maxLen; omega) (by omega) hA.heap _ rfl ?_
          | (replace hA := hA.drew; refine step_append_lies _ (by rfl) _ _ _ (by rfl) (B + 2 + 1) 9 ir _ 1 16 Tryz.underlying40 HI.out.1 HI.out.2.1 HI.out.2.2.1 HI.out.2.2.2 rfl (by omega) (.slice rA acc.length rc) acc.length (acc.map .string) (by rfl) hA.rr ⟨n9, 0, none⟩ 1 1 [.string ⟨s.toArray⟩] (by rfl) (by rfl) (World.news_of_block (cs := #[.string ⟨s.toArray⟩]) (t := 9) (fr := (0, 0)) hN) (by simp [Value.oneCell']) (by omega) (by unfold maxLen; omega) (by omega) hA.heap _ rfl ?_)
          intro g cap wv ho9 hg9 hat9 hl9
          obtain ⟨hP9, hA8⟩ := hA.addR ho9 hg9 hat9
          clear ho9 hg9 hat9 hl9 hN
          replace hA := hA8
          clear hA8
          refine hK.out _ _ ?_ (fun hHeld4 => ?_)
          · (try dsimp only)
            first | done | trivial
          clear hK K hHeld3
          (try simp only [Act.put, List.setIfInBounds_toArray, List.set_cons_zero, List.set_cons_succ])
          refine wpAnyH_take (i := 6) (oi := ⟨some 43, _, _, _, _, _⟩) (v := ?_) rfl (by kernel_rfl) (by kernel_rfl) (by kernel_rfl) (fun _ _ _ h => h) (Or.inl ⟨by kernel_rfl, ?_⟩) (by assumption) ?_
          rotate_left
          · (intro w hSw; (try dsimp only at hSw); go_simp; (first | done | with_reducible rfl))
          (try simp only [Act.put, List.setIfInBounds_toArray, List.set_cons_zero, List.set_cons_succ])
          refine wpAnyH_ready (rs := [7]) (by kernel_rfl) (by simp) ?_
          refine AllReadyH.cons rfl (fun K hK => ?_) AllReadyH.nil
          have x0 := hP9.cell 0
          have f0 := hP9.free 0
          simp at x0
          go_simp
          refine name_world' ?_
          intro w8 hw8
          have hA8 := hA
          first
          | rw [← hw8] at hA8
          | (replace hA8 := hA8.drew; rw [← hw8] at hA8)
          clear hw8 x0 f0 hP9
          replace hA := hA8
          clear hA8
          obtain ⟨wv, hwv⟩ : ∃ x, x = w8 := ⟨_, rfl⟩
          subst hwv
          refine hK.out _ _ ?_ (fun hHeld5 => ?_)
          · (try dsimp only)
            first | done | trivial
          clear hK K hHeld4
          (try simp only [Act.put, List.setIfInBounds_toArray, List.set_cons_zero, List.set_cons_succ])
          refine wpAnyH_done (by kernel_rfl) ?_ _
          go_wp2
          go_roundg q
          case measure => omega
          case rel => exact ⟨A5, c5, bad5, l5, _, acc ++ [⟨s.toArray⟩], by go_num, by simp; omega, by omega, Lib.hid ⟨hA, HS.out.2.next HT5.out⟩⟩
        refine AllReadyH.cons (o := ⟨some 40, _, _, _, _, _⟩) rfl (fun K hK => ?_) AllReadyH.nil
        go_simp
        first
        | refine (rtext_any _ _ _ _ _ _ _ hA.rd (by omega)).mono ?_
        | (replace hA := hA.drew; refine (rtext_any _ _ _ _ _ _ _ hA.rd (by omega)).mono ?_)
        rintro e wv ⟨s, bad5, A5, c5, l5, rfl, h5, hc5, hT5⟩
        replace hA := hA.call h5 hc5
        have hl5 := hT5.1
        have HT5 := Lib.hid hT5
        clear h5 hc5 hT5
        refine hK.out _ _ ?_ (fun hHeld1 => ?_)
        · (try dsimp only)
          first | done | trivial
        clear hK K hHeld0
        (try simp only [Act.put, List.setIfInBounds_toArray, List.set_cons_zero, List.set_cons_succ])
        refine wpAnyH_ready (rs := [1, 4]) (by kernel_rfl) (by simp) ?_
        refine AllReadyH.cons (o := ⟨some 38, _, _, _, _, _⟩) rfl (fun K hK => ?_) ?_
        · skip
          have x0 := hA.pl.cell 0
          simp at x0
          go_simp
          refine name_world' ?_
          intro w8 hw8
          have hA8 := hA.later (W' := w8) (by
            rw [hw8]
            first | exact Below.refl _ _ | exact (Below.refl _ _).drew | exact (Below.refl _ _).alloc (Nat.le_refl _) _ | exact ((Below.refl _ _).alloc (Nat.le_refl _) _).drew | exact ((Below.refl _ _).drew).alloc (Nat.le_refl _) _ | exact (((Below.refl _ _).drew).alloc (Nat.le_refl _) _).drew
            )
          (try replace hN := holds_later (W' := w8) hN (by
            rw [hw8]
            first | exact Below.refl _ _ | exact (Below.refl _ _).drew | exact (Below.refl _ _).alloc (Nat.le_refl _) _ | exact ((Below.refl _ _).alloc (Nat.le_refl _) _).drew | exact ((Below.refl _ _).drew).alloc (Nat.le_refl _) _ | exact (((Below.refl _ _).drew).alloc (Nat.le_refl _) _).drew
            ))
          clear hw8
          replace hA := hA8
          clear hA8
          obtain ⟨wv, hwv⟩ : ∃ x, x = w8 := ⟨_, rfl⟩
          subst hwv
          clear x0
          refine hK.out _ _ ?_ (fun hHeld2 => ?_)
          · (try dsimp only)
            first | done | trivial
          clear hK K hHeld1
          (try simp only [Act.put, List.setIfInBounds_toArray, List.set_cons_zero, List.set_cons_succ])
          refine wpAnyH_ready (rs := [4]) (by kernel_rfl) (by simp) ?_
          refine AllReadyH.cons (o := ⟨some 41, _, _, _, _, _⟩) rfl (fun K hK => ?_) AllReadyH.nil
          go_simp
          refine name_world' ?_
          intro w8 hw8
          have hA8 := hA.later (W' := w8) (by
            rw [hw8]
            first | exact Below.refl _ _ | exact (Below.refl _ _).drew | exact (Below.refl _ _).alloc (Nat.le_refl _) _ | exact ((Below.refl _ _).alloc (Nat.le_refl _) _).drew | exact ((Below.refl _ _).drew).alloc (Nat.le_refl _) _ | exact (((Below.refl _ _).drew).alloc (Nat.le_refl _) _).drew
            )
          have hN : Holds w8 wv.heap.size 9 #[.string ⟨s.toArray⟩] := by
            rw [hw8]
            first | exact Holds.new _ _ _ | exact (Holds.new _ _ _).drew | exact Holds.new wv.drew _ _ | exact (Holds.new wv.drew _ _).drew
          obtain ⟨n9, hn9⟩ : ∃ n9, wv.heap.size = n9 := ⟨_, rfl⟩
          rw [hn9] at hN
          (try rw [hn9])
          clear hn9 hw8
          replace hA := hA8
          clear hA8
          obtain ⟨wv, hwv⟩ : ∃ x, x = w8 := ⟨_, rfl⟩
          subst hwv
          refine hK.out _ _ ?_ (fun hHeld3 => ?_)
          · (try dsimp only)
            first | done | trivial
          clear hK K hHeld2
          (try simp only [Act.put, List.setIfInBounds_toArray, List.set_cons_zero, List.set_cons_succ])
          refine wpAnyH_ready (rs := [5]) (by kernel_rfl) (by simp) ?_
          refine AllReadyH.cons (o := ⟨some 42, _, _, _, _, _⟩) rfl (fun K hK => ?_) AllReadyH.nil
          first
          | refine step_append_lies _ (by rfl) _ _ _ (by rfl) (B + 2 + 1) 9 ir _ 1 16 Tryz.underlying40 HI.out.1 HI.out.2.1 HI.out.2.2.1 HI.out.2.2.2 rfl (by omega) (.slice rA acc.length rc) acc.length (acc.map .string) (by rfl) hA.rr ⟨n9, 0, none⟩ 1 1 [.string ⟨s.toArray⟩] (by rfl) (by rfl) (World.news_of_block (cs := #[.string ⟨s.toArray⟩]) (t := 9) (fr := (0, 0)) hN) (by simp [Value.oneCell']) (by omega) (by unfold maxLen; omega) (by omega) hA.heap _ rfl ?_
          | (replace hA := hA.drew; refine step_append_lies _ (by rfl) _ _ _ (by rfl) (B + 2 + 1) 9 ir _ 1 16 Tryz.underlying40 HI.out.1 HI.out.2.1 HI.out.2.2.1 HI.out.2.2.2 rfl (by omega) (.slice rA acc.length rc) acc.length (acc.map .string) (by rfl) hA.rr ⟨n9, 0, none⟩ 1 1 [.string ⟨s.toArray⟩] (by rfl) (by rfl) (World.news_of_block (cs := #[.string ⟨s.toArray⟩]) (t := 9) (fr := (0, 0)) hN) (by simp [Value.oneCell']) (by omega) (by unfold maxLen; omega) (by omega) hA.heap _ rfl ?_)
          intro g cap wv ho9 hg9 hat9 hl9
          obtain ⟨hP9, hA8⟩ := hA.addR ho9 hg9 hat9
          clear ho9 hg9 hat9 hl9 hN
          replace hA := hA8
          clear hA8
          refine hK.out _ _ ?_ (fun hHeld4 => ?_)
          · (try dsimp only)
            first | done | trivial
          clear hK K hHeld3
          (try simp only [Act.put, List.setIfInBounds_toArray, List.set_cons_zero, List.set_cons_succ])
          refine wpAnyH_take (i := 6) (oi := ⟨some 43, _, _, _, _, _⟩) (v := ?_) rfl (by kernel_rfl) (by kernel_rfl) (by kernel_rfl) (fun _ _ _ h => h) (Or.inl ⟨by kernel_rfl, ?_⟩) (by assumption) ?_
          rotate_left
          · (intro w hSw; (try dsimp only at hSw); go_simp; (first | done | with_reducible rfl))
          (try simp only [Act.put, List.setIfInBounds_toArray, List.set_cons_zero, List.set_cons_succ])
          refine wpAnyH_ready (rs := [7]) (by kernel_rfl) (by simp) ?_
          refine AllReadyH.cons rfl (fun K hK => ?_) AllReadyH.nil
          have x0 := hP9.cell 0
          have f0 := hP9.free 0
          simp at x0
          go_simp
          refine name_world' ?_
          intro w8 hw8
          have hA8 := hA
          first
          | rw [← hw8] at hA8
          | (replace hA8 := hA8.drew; rw [← hw8] at hA8)
          clear hw8 x0 f0 hP9
          replace hA := hA8
          clear hA8
          obtain ⟨wv, hwv⟩ : ∃ x, x = w8 := ⟨_, rfl⟩
          subst hwv
          refine hK.out _ _ ?_ (fun hHeld5 => ?_)
          · (try dsimp only)
            first | done | trivial
          clear hK K hHeld4
          (try simp only [Act.put, List.setIfInBounds_toArray, List.set_cons_zero, List.set_cons_succ])
          refine wpAnyH_done (by kernel_rfl) ?_ _
          go_wp2
          go_roundg q
          case measure => omega
          case rel => exact ⟨A5, c5, bad5, l5, _, acc ++ [⟨s.toArray⟩], by go_num, by simp; omega, by omega, Lib.hid ⟨hA, HS.out.2.next HT5.out⟩⟩
        refine AllReadyH.cons (o := ⟨some 41, _, _, _, _, _⟩) rfl (fun K hK => ?_) AllReadyH.nil
        go_simp
        refine name_world' ?_
        intro w8 hw8
        have hA8 := hA.later (W' := w8) (by
          rw [hw8]
          first | exact Below.refl _ _ | exact (Below.refl _ _).drew | exact (Below.refl _ _).alloc (Nat.le_refl _) _ | exact ((Below.refl _ _).alloc (Nat.le_refl _) _).drew | exact ((Below.refl _ _).drew).alloc (Nat.le_refl _) _ | exact (((Below.refl _ _).drew).alloc (Nat.le_refl _) _).drew
          )
        have hN : Holds w8 wv.heap.size 9 #[.string ⟨s.toArray⟩] := by
          rw [hw8]
          first | exact Holds.new _ _ _ | exact (Holds.new _ _ _).drew | exact Holds.new wv.drew _ _ | exact (Holds.new wv.drew _ _).drew
        obtain ⟨n9, hn9⟩ : ∃ n9, wv.heap.size = n9 := ⟨_, rfl⟩
        rw [hn9] at hN
        (try rw [hn9])
        clear hn9 hw8
        replace hA := hA8
        clear hA8
        obtain ⟨wv, hwv⟩ : ∃ x, x = w8 := ⟨_, rfl⟩
        subst hwv
        refine hK.out _ _ ?_ (fun hHeld2 => ?_)
        · (try dsimp only)
          first | done | trivial
        clear hK K hHeld1
        (try simp only [Act.put, List.setIfInBounds_toArray, List.set_cons_zero, List.set_cons_succ])
        refine wpAnyH_ready (rs := [1]) (by kernel_rfl) (by simp) ?_
        refine AllReadyH.cons (o := ⟨some 38, _, _, _, _, _⟩) rfl (fun K hK => ?_) AllReadyH.nil
        have x0 := hA.pl.cell 0
        simp at x0
        go_simp
        refine name_world' ?_
        intro w8 hw8
        have hA8 := hA.later (W' := w8) (by
          rw [hw8]
          first | exact Below.refl _ _ | exact (Below.refl _ _).drew | exact (Below.refl _ _).alloc (Nat.le_refl _) _ | exact ((Below.refl _ _).alloc (Nat.le_refl _) _).drew | exact ((Below.refl _ _).drew).alloc (Nat.le_refl _) _ | exact (((Below.refl _ _).drew).alloc (Nat.le_refl _) _).drew
          )
        (try replace hN := holds_later (W' := w8) hN (by
          rw [hw8]
          first | exact Below.refl _ _ | exact (Below.refl _ _).drew | exact (Below.refl _ _).alloc (Nat.le_refl _) _ | exact ((Below.refl _ _).alloc (Nat.le_refl _) _).drew | exact ((Below.refl _ _).drew).alloc (Nat.le_refl _) _ | exact (((Below.refl _ _).drew).alloc (Nat.le_refl _) _).drew
          ))
        clear hw8
        replace hA := hA8
        clear hA8
        obtain ⟨wv, hwv⟩ : ∃ x, x = w8 := ⟨_, rfl⟩
        subst hwv
        clear x0
        refine hK.out _ _ ?_ (fun hHeld3 => ?_)
        · (try dsimp only)
          first | done | trivial
        clear hK K hHeld2
        (try simp only [Act.put, List.setIfInBounds_toArray, List.set_cons_zero, List.set_cons_succ])
        refine wpAnyH_ready (rs := [5]) (by kernel_rfl) (by simp) ?_
        refine AllReadyH.cons (o := ⟨some 42, _, _, _, _, _⟩) rfl (fun K hK => ?_) AllReadyH.nil
        first
        | refine step_append_lies _ (by rfl) _ _ _ (by rfl) (B + 2 + 1) 9 ir _ 1 16 Tryz.underlying40 HI.out.1 HI.out.2.1 HI.out.2.2.1 HI.out.2.2.2 rfl (by omega) (.slice rA acc.length rc) acc.length (acc.map .string) (by rfl) hA.rr ⟨n9, 0, none⟩ 1 1 [.string ⟨s.toArray⟩] (by rfl) (by rfl) (World.news_of_block (cs := #[.string ⟨s.toArray⟩]) (t := 9) (fr := (0, 0)) hN) (by simp [Value.oneCell']) (by omega) (by unfold maxLen; omega) (by omega) hA.heap _ rfl ?_
        | (replace hA := hA.drew; refine step_append_lies _ (by rfl) _ _ _ (by rfl) (B + 2 + 1) 9 ir _ 1 16 Tryz.underlying40 HI.out.1 HI.out.2.1 HI.out.2.2.1 HI.out.2.2.2 rfl (by omega) (.slice rA acc.length rc) acc.length (acc.map .string) (by rfl) hA.rr ⟨n9, 0, none⟩ 1 1 [.string ⟨s.toArray⟩] (by rfl) (by rfl) (World.news_of_block (cs := #[.string ⟨s.toArray⟩]) (t := 9) (fr := (0, 0)) hN) (by simp [Value.oneCell']) (by omega) (by unfold maxLen; omega) (by omega) hA.heap _ rfl ?_)
        intro g cap wv ho9 hg9 hat9 hl9
        obtain ⟨hP9, hA8⟩ := hA.addR ho9 hg9 hat9
        clear ho9 hg9 hat9 hl9 hN
        replace hA := hA8
        clear hA8
        refine hK.out _ _ ?_ (fun hHeld4 => ?_)
        · (try dsimp only)
          first | done | trivial
        clear hK K hHeld3
        (try simp only [Act.put, List.setIfInBounds_toArray, List.set_cons_zero, List.set_cons_succ])
        refine wpAnyH_take (i := 6) (oi := ⟨some 43, _, _, _, _, _⟩) (v := ?_) rfl (by kernel_rfl) (by kernel_rfl) (by kernel_rfl) (fun _ _ _ h => h) (Or.inl ⟨by kernel_rfl, ?_⟩) (by assumption) ?_
        rotate_left
        · (intro w hSw; (try dsimp only at hSw); go_simp; (first | done | with_reducible rfl))
        (try simp only [Act.put, List.setIfInBounds_toArray, List.set_cons_zero, List.set_cons_succ])
        refine wpAnyH_ready (rs := [7]) (by kernel_rfl) (by simp) ?_
        refine AllReadyH.cons rfl (fun K hK => ?_) AllReadyH.nil
        have x0 := hP9.cell 0
        have f0 := hP9.free 0
        simp at x0
        go_simp
        refine name_world' ?_
        intro w8 hw8
        have hA8 := hA
        first
        | rw [← hw8] at hA8
        | (replace hA8 := hA8.drew; rw [← hw8] at hA8)
        clear hw8 x0 f0 hP9
        replace hA := hA8
        clear hA8
        obtain ⟨wv, hwv⟩ : ∃ x, x = w8 := ⟨_, rfl⟩
        subst hwv
        refine hK.out _ _ ?_ (fun hHeld5 => ?_)
        · (try dsimp only)
          first | done | trivial
        clear hK K hHeld4
        (try simp only [Act.put, List.setIfInBounds_toArray, List.set_cons_zero, List.set_cons_succ])
        refine wpAnyH_done (by kernel_rfl) ?_ _
        go_wp2
        go_roundg q
        case measure => omega
        case rel => exact ⟨A5, c5, bad5, l5, _, acc ++ [⟨s.toArray⟩], by go_num, by simp; omega, by omega, Lib.hid ⟨hA, HS.out.2.next HT5.out⟩⟩
      · have hx : gk = 0 ∨ (0 < gk ∧ bad3 = true) := by
          by_cases h0 : gk = 0
          · exact .inl h0
          · refine .inr ⟨by omega, ?_⟩
            cases bad3 with
            | true => rfl
            | false => exact absurd ⟨by omega, rfl⟩ hgo
        clear hgo
        have HX : Hid (gk = 0 ∨ bad3 = true) := Lib.hid (by rcases hx with h | h; exact .inl h; exact .inr h.2)
        have hn3 := Lib.hid (rnum_any wr (B + 2) B A3 c3 bad3 l3 HS.out.1.rd (by omega))
        rcases hx with rfl | ⟨hg0, rfl⟩
        all_goals (
          obtain ⟨wO, hwO⟩ : ∃ x, x = wr := ⟨_, rfl⟩
          subst hwO
          go_wp2_with fail
          refine hn3.out.mono ?_
          rintro e w4 ⟨n4, bad4, A4, c4, l4, rfl, h4, hc4, hN4⟩
          have hn48 := hN4.2.1
          have hl4 := hN4.1
          have HR4 := Lib.hid (And.intro (HS.out.1.call h4 hc4) (HS.out.2.num (by first | exact .inl rfl | exact .inr rfl) hN4))
          clear h4 hc4 hN4
          go_wp2_with fail
          go_loopg [7] n4 (fun q nv wr => ∃ (A : Option Addr) (c : Nat) (bad : Bool) (l : Bs) (wv : Value) (acc2 : List (ByteArray × Bs)), nv = .int .i64 (q : Int) ∧ acc2.length + q = n4 ∧ l.length ≤ b.length ∧ Hid (RS w B (B + 1) (B + 2) A c bad l rv3 wv acc acc2 wr ∧ St2 (readP b) q bad l acc acc2))
          case atStart => exact ⟨A4, c4, bad4, l4, .slice none 0 0, [], rfl, by simp, by omega, Lib.hid ⟨HR4.out.1, HR4.out.2⟩⟩
          case round =>
            obtain ⟨A6, c6, bad6, l6, wv6, acc2, rfl, hacc2, hl6, HS6⟩ := hrel
            have q6 := HS6.out.1.rd.h.cell 1
            simp at q6
            by_cases hgo : 0 < gk ∧ bad6 = false
            · obtain ⟨hg0, rfl⟩ := hgo
              obtain ⟨q, rfl⟩ : ∃ q, gk = q + 1 := ⟨gk - 1, by omega⟩
              obtain ⟨wA, wc, rfl, _⟩ := own_slice2 HS6.out.1.ww
              obtain ⟨wv, hwv⟩ : ∃ x, x = wr := ⟨_, rfl⟩
              subst hwv
              have hA := HS6.out.1
              have HT5 := Lib.hid (rtext_any _ _ _ _ _ _ _ hA.rd (by omega))
              go_wp2_with fail
              refine HT5.out.mono ?_
              rintro e wv ⟨s, bad5, A5, c5, l5, rfl, h5, hc5, hT5⟩
              replace hA := hA.call h5 hc5
              have hl5 := hT5.1
              have HT6 := Lib.hid hT5
              clear h5 hc5 hT5 HT5 q6
              go_wp2_with fail
              refine wp_region_held_drew (S := (fun _ => True)) (by kernel_rfl) ?_ (fun hHeld0 => ?_)
              · (try dsimp only)
                first | done | trivial
              refine wpAnyH_take (i := 0) (oi := ⟨some 59, _, _, _, _, _⟩) (v := ?_) rfl (by kernel_rfl) (by kernel_rfl) (by kernel_rfl) (fun _ _ _ h => h) (Or.inl ⟨by kernel_rfl, ?_⟩) (by assumption) ?_
              rotate_left
              · (intro w hSw; (try dsimp only at hSw); go_simp; (first | done | with_reducible rfl))
              (try simp only [Act.put, List.setIfInBounds_toArray, List.set_cons_zero, List.set_cons_succ])
              refine wpAnyH_take (i := 2) (oi := ⟨some 61, _, _, _, _, _⟩) (v := ?_) rfl (by kernel_rfl) (by kernel_rfl) (by kernel_rfl) (fun _ _ _ h => h) (Or.inl ⟨by kernel_rfl, ?_⟩) (by assumption) ?_
              rotate_left
              · (intro w hSw; (try dsimp only at hSw); go_simp; (first | done | with_reducible rfl))
              (try simp only [Act.put, List.setIfInBounds_toArray, List.set_cons_zero, List.set_cons_succ])
              refine wpAnyH_take (i := 3) (oi := ⟨some 62, _, _, _, _, _⟩) (v := ?_) rfl (by kernel_rfl) (by kernel_rfl) (by kernel_rfl) (fun _ _ _ h => h) (Or.inl ⟨by kernel_rfl, ?_⟩) (by assumption) ?_
              rotate_left
              · (intro w hSw; (try dsimp only at hSw); go_simp; (first | done | with_reducible rfl))
              (try simp only [Act.put, List.setIfInBounds_toArray, List.set_cons_zero, List.set_cons_succ])
              refine wpAnyH_ready (rs := [1, 4]) (by kernel_rfl) (by simp) ?_
              refine AllReadyH.cons (o := ⟨some 60, _, _, _, _, _⟩) rfl (fun K hK => ?_) ?_
              · skip
                have x0 := hA.pl.cell 1
                simp at x0
                go_simp
                refine name_world' ?_
                intro w8 hw8
                have hA8 := hA.later (W' := w8) (by
                  rw [hw8]
                  first | exact Below.refl _ _ | exact (Below.refl _ _).drew | exact (Below.refl _ _).alloc (Nat.le_refl _) _ | exact ((Below.refl _ _).alloc (Nat.le_refl _) _).drew | exact ((Below.refl _ _).drew).alloc (Nat.le_refl _) _ | exact (((Below.refl _ _).drew).alloc (Nat.le_refl _) _).drew
                  )
                (try replace hN := holds_later (W' := w8) hN (by
                  rw [hw8]
                  first | exact Below.refl _ _ | exact (Below.refl _ _).drew | exact (Below.refl _ _).alloc (Nat.le_refl _) _ | exact ((Below.refl _ _).alloc (Nat.le_refl _) _).drew | exact ((Below.refl _ _).drew).alloc (Nat.le_refl _) _ | exact (((Below.refl _ _).drew).alloc (Nat.le_refl _) _).drew
                  ))
                clear hw8
                replace hA := hA8
                clear hA8
                obtain ⟨wv, hwv⟩ : ∃ x, x = w8 := ⟨_, rfl⟩
                subst hwv
                clear x0
                refine hK.out _ _ ?_ (fun hHeld1 => ?_)
                · (try dsimp only)
                  first | done | trivial
                clear hK K hHeld0
                (try simp only [Act.put, List.setIfInBounds_toArray, List.set_cons_zero, List.set_cons_succ])
                refine wpAnyH_ready (rs := [4]) (by kernel_rfl) (by simp) ?_
                refine AllReadyH.cons (o := ⟨some 63, _, _, _, _, _⟩) rfl (fun K hK => ?_) AllReadyH.nil
                go_simp
                first
                | refine (rtext_any _ _ _ _ _ _ _ hA.rd (by omega)).mono ?_
                | (replace hA := hA.drew; refine (rtext_any _ _ _ _ _ _ _ hA.rd (by omega)).mono ?_)
                rintro e wv ⟨t7, bad7, A7, c7, l7, rfl, h7, hc7, hT7⟩
                replace hA := hA.call h7 hc7
                have hl7 := hT7.1
                have HT7 := Lib.hid hT7
                clear h7 hc7 hT7
                refine hK.out _ _ ?_ (fun hHeld2 => ?_)
                · (try dsimp only)
                  first | done | trivial
                clear hK K hHeld1
                (try simp only [Act.put, List.setIfInBounds_toArray, List.set_cons_zero, List.set_cons_succ])
                refine wpAnyH_take (i := 5) (oi := ⟨some 64, _, _, _, _, _⟩) (v := ?_) rfl (by kernel_rfl) (by kernel_rfl) (by kernel_rfl) (fun _ _ _ h => h) (Or.inl ⟨by kernel_rfl, ?_⟩) (by assumption) ?_
                rotate_left
                · (intro w hSw; (try dsimp only at hSw); go_simp; (first | done | with_reducible rfl))
                (try simp only [Act.put, List.setIfInBounds_toArray, List.set_cons_zero, List.set_cons_succ])
                refine wpAnyH_ready (rs := [6]) (by kernel_rfl) (by simp) ?_
                refine AllReadyH.cons (o := ⟨some 65, _, _, _, _, _⟩) rfl (fun K hK => ?_) AllReadyH.nil
                go_simp
                refine name_world' ?_
                intro w8 hw8
                have hA8 := hA.later (W' := w8) (by
                  rw [hw8]
                  first | exact Below.refl _ _ | exact (Below.refl _ _).drew | exact (Below.refl _ _).alloc (Nat.le_refl _) _ | exact ((Below.refl _ _).alloc (Nat.le_refl _) _).drew | exact ((Below.refl _ _).drew).alloc (Nat.le_refl _) _ | exact (((Below.refl _ _).drew).alloc (Nat.le_refl _) _).drew
                  )
                have hN : Holds w8 wv.heap.size 50 #[.string ⟨s.toArray⟩, .string ⟨t7.toArray⟩] := by
                  rw [hw8]
                  first | exact Holds.new _ _ _ | exact (Holds.new _ _ _).drew | exact Holds.new wv.drew _ _ | exact (Holds.new wv.drew _ _).drew
                obtain ⟨n9, hn9⟩ : ∃ n9, wv.heap.size = n9 := ⟨_, rfl⟩
                rw [hn9] at hN
                (try rw [hn9])
                clear hn9 hw8
                replace hA := hA8
                clear hA8
                obtain ⟨wv, hwv⟩ : ∃ x, x = w8 := ⟨_, rfl⟩
                subst hwv
                refine hK.out _ _ ?_ (fun hHeld3 => ?_)
                · (try dsimp only)
                  first | done | trivial
                clear hK K hHeld2
                (try simp only [Act.put, List.setIfInBounds_toArray, List.set_cons_zero, List.set_cons_succ])
                refine wpAnyH_ready (rs := [7]) (by kernel_rfl) (by simp) ?_
                refine AllReadyH.cons (o := ⟨some 66, _, _, _, _, _⟩) rfl (fun K hK => ?_) AllReadyH.nil
                first
                | refine step_append_lies _ (by rfl) _ _ _ (by rfl) (B + 2 + 1) 50 iw _ 2 32 Tryz.underlying39 HJ.out.1 HJ.out.2.1 HJ.out.2.2.1 HJ.out.2.2.2 rfl (by omega) (.slice wA acc2.length wc) acc2.length (rowFl acc2) (by rfl) hA.ww ⟨n9, 0, none⟩ 1 1 [.string ⟨s.toArray⟩, .string ⟨t7.toArray⟩] (by rfl) (by rfl) (World.news_of_block (cs := #[.string ⟨s.toArray⟩, .string ⟨t7.toArray⟩]) (t := 50) (fr := (0, 0)) hN) (by simp [Value.oneCell']) (by omega) (by unfold maxLen; omega) (by omega) hA.heap _ rfl ?_
                | (replace hA := hA.drew; refine step_append_lies _ (by rfl) _ _ _ (by rfl) (B + 2 + 1) 50 iw _ 2 32 Tryz.underlying39 HJ.out.1 HJ.out.2.1 HJ.out.2.2.1 HJ.out.2.2.2 rfl (by omega) (.slice wA acc2.length wc) acc2.length (rowFl acc2) (by rfl) hA.ww ⟨n9, 0, none⟩ 1 1 [.string ⟨s.toArray⟩, .string ⟨t7.toArray⟩] (by rfl) (by rfl) (World.news_of_block (cs := #[.string ⟨s.toArray⟩, .string ⟨t7.toArray⟩]) (t := 50) (fr := (0, 0)) hN) (by simp [Value.oneCell']) (by omega) (by unfold maxLen; omega) (by omega) hA.heap _ rfl ?_)
                intro g cap wv ho9 hg9 hat9 hl9
                obtain ⟨hP9, hA8⟩ := hA.addW (f := (⟨s.toArray⟩, t7)) ho9 hg9 hat9
                clear ho9 hg9 hat9 hl9 hN
                replace hA := hA8
                clear hA8
                refine hK.out _ _ ?_ (fun hHeld4 => ?_)
                · (try dsimp only)
                  first | done | trivial
                clear hK K hHeld3
                (try simp only [Act.put, List.setIfInBounds_toArray, List.set_cons_zero, List.set_cons_succ])
                refine wpAnyH_take (i := 8) (oi := ⟨some 67, _, _, _, _, _⟩) (v := ?_) rfl (by kernel_rfl) (by kernel_rfl) (by kernel_rfl) (fun _ _ _ h => h) (Or.inl ⟨by kernel_rfl, ?_⟩) (by assumption) ?_
                rotate_left
                · (intro w hSw; (try dsimp only at hSw); go_simp; (first | done | with_reducible rfl))
                (try simp only [Act.put, List.setIfInBounds_toArray, List.set_cons_zero, List.set_cons_succ])
                refine wpAnyH_ready (rs := [9]) (by kernel_rfl) (by simp) ?_
                refine AllReadyH.cons rfl (fun K hK => ?_) AllReadyH.nil
                have x0 := hP9.cell 1
                have f0 := hP9.free 1
                simp at x0
                go_simp
                refine name_world' ?_
                intro w8 hw8
                have hA8 := hA
                first
                | rw [← hw8] at hA8
                | (replace hA8 := hA8.drew; rw [← hw8] at hA8)
                clear hw8 x0 f0 hP9
                replace hA := hA8
                clear hA8
                obtain ⟨wv, hwv⟩ : ∃ x, x = w8 := ⟨_, rfl⟩
                subst hwv
                refine hK.out _ _ ?_ (fun hHeld5 => ?_)
                · (try dsimp only)
                  first | done | trivial
                clear hK K hHeld4
                (try simp only [Act.put, List.setIfInBounds_toArray, List.set_cons_zero, List.set_cons_succ])
                refine wpAnyH_done (by kernel_rfl) ?_ _
                go_wp2
                go_roundg q
                case measure => omega
                case rel => exact ⟨A7, c7, bad7, l7, _, acc2 ++ [(⟨s.toArray⟩, t7)], by go_num, by simp; omega, by omega, Lib.hid ⟨hA, HS6.out.2.next HT6.out HT7.out⟩⟩
              refine AllReadyH.cons (o := ⟨some 63, _, _, _, _, _⟩) rfl (fun K hK => ?_) AllReadyH.nil
              go_simp
              first
              | refine (rtext_any _ _ _ _ _ _ _ hA.rd (by omega)).mono ?_
              | (replace hA := hA.drew; refine (rtext_any _ _ _ _ _ _ _ hA.rd (by omega)).mono ?_)
              rintro e wv ⟨t7, bad7, A7, c7, l7, rfl, h7, hc7, hT7⟩
              replace hA := hA.call h7 hc7
              have hl7 := hT7.1
              have HT7 := Lib.hid hT7
              clear h7 hc7 hT7
              refine hK.out _ _ ?_ (fun hHeld1 => ?_)
              · (try dsimp only)
                first | done | trivial
              clear hK K hHeld0
              (try simp only [Act.put, List.setIfInBounds_toArray, List.set_cons_zero, List.set_cons_succ])
              refine wpAnyH_take (i := 5) (oi := ⟨some 64, _, _, _, _, _⟩) (v := ?_) rfl (by kernel_rfl) (by kernel_rfl) (by kernel_rfl) (fun _ _ _ h => h) (Or.inl ⟨by kernel_rfl, ?_⟩) (by assumption) ?_
              rotate_left
              · (intro w hSw; (try dsimp only at hSw); go_simp; (first | done | with_reducible rfl))
              (try simp only [Act.put, List.setIfInBounds_toArray, List.set_cons_zero, List.set_cons_succ])
              refine wpAnyH_ready (rs := [1, 6]) (by kernel_rfl) (by simp) ?_
              refine AllReadyH.cons (o := ⟨some 60, _, _, _, _, _⟩) rfl (fun K hK => ?_) ?_
              · skip
                have x0 := hA.pl.cell 1
                simp at x0
                go_simp
                refine name_world' ?_
                intro w8 hw8
                have hA8 := hA.later (W' := w8) (by
                  rw [hw8]
                  first | exact Below.refl _ _ | exact (Below.refl _ _).drew | exact (Below.refl _ _).alloc (Nat.le_refl _) _ | exact ((Below.refl _ _).alloc (Nat.le_refl _) _).drew | exact ((Below.refl _ _).drew).alloc (Nat.le_refl _) _ | exact (((Below.refl _ _).drew).alloc (Nat.le_refl _) _).drew
                  )
                (try replace hN := holds_later (W' := w8) hN (by
                  rw [hw8]
                  first | exact Below.refl _ _ | exact (Below.refl _ _).drew | exact (Below.refl _ _).alloc (Nat.le_refl _) _ | exact ((Below.refl _ _).alloc (Nat.le_refl _) _).drew | exact ((Below.refl _ _).drew).alloc (Nat.le_refl _) _ | exact (((Below.refl _ _).drew).alloc (Nat.le_refl _) _).drew
                  ))
                clear hw8
                replace hA := hA8
                clear hA8
                obtain ⟨wv, hwv⟩ : ∃ x, x = w8 := ⟨_, rfl⟩
                subst hwv
                clear x0
                refine hK.out _ _ ?_ (fun hHeld2 => ?_)
                · (try dsimp only)
                  first | done | trivial
                clear hK K hHeld1
                (try simp only [Act.put, List.setIfInBounds_toArray, List.set_cons_zero, List.set_cons_succ])
                refine wpAnyH_ready (rs := [6]) (by kernel_rfl) (by simp) ?_
                refine AllReadyH.cons (o := ⟨some 65, _, _, _, _, _⟩) rfl (fun K hK => ?_) AllReadyH.nil
                go_simp
                refine name_world' ?_
                intro w8 hw8
                have hA8 := hA.later (W' := w8) (by
                  rw [hw8]
                  first | exact Below.refl _ _ | exact (Below.refl _ _).drew | exact (Below.refl _ _).alloc (Nat.le_refl _) _ | exact ((Below.refl _ _).alloc (Nat.le_refl _) _).drew | exact ((Below.refl _ _).drew).alloc (Nat.le_refl _) _ | exact (((Below.refl _ _).drew).alloc (Nat.le_refl _) _).drew
                  )
                have hN : Holds w8 wv.heap.size 50 #[.string ⟨s.toArray⟩, .string ⟨t7.toArray⟩] := by
                  rw [hw8]
                  first | exact Holds.new _ _ _ | exact (Holds.new _ _ _).drew | exact Holds.new wv.drew _ _ | exact (Holds.new wv.drew _ _).drew
                obtain ⟨n9, hn9⟩ : ∃ n9, wv.heap.size = n9 := ⟨_, rfl⟩
                rw [hn9] at hN
                (try rw [hn9])
                clear hn9 hw8
                replace hA := hA8
                clear hA8
                obtain ⟨wv, hwv⟩ : ∃ x, x = w8 := ⟨_, rfl⟩
                subst hwv
                refine hK.out _ _ ?_ (fun hHeld3 => ?_)
                · (try dsimp only)
                  first | done | trivial
                clear hK K hHeld2
                (try simp only [Act.put, List.setIfInBounds_toArray, List.set_cons_zero, List.set_cons_succ])
                refine wpAnyH_ready (rs := [7]) (by kernel_rfl) (by simp) ?_
                refine AllReadyH.cons (o := ⟨some 66, _, _, _, _, _⟩) rfl (fun K hK => ?_) AllReadyH.nil
                first
                | refine step_append_lies _ (by rfl) _ _ _ (by rfl) (B + 2 + 1) 50 iw _ 2 32 Tryz.underlying39 HJ.out.1 HJ.out.2.1 HJ.out.2.2.1 HJ.out.2.2.2 rfl (by omega) (.slice wA acc2.length wc) acc2.length (rowFl acc2) (by rfl) hA.ww ⟨n9, 0, none⟩ 1 1 [.string ⟨s.toArray⟩, .string ⟨t7.toArray⟩] (by rfl) (by rfl) (World.news_of_block (cs := #[.string ⟨s.toArray⟩, .string ⟨t7.toArray⟩]) (t := 50) (fr := (0, 0)) hN) (by simp [Value.oneCell']) (by omega) (by unfold maxLen; omega) (by omega) hA.heap _ rfl ?_
                | (replace hA := hA.drew; refine step_append_lies _ (by rfl) _ _ _ (by rfl) (B + 2 + 1) 50 iw _ 2 32 Tryz.underlying39 HJ.out.1 HJ.out.2.1 HJ.out.2.2.1 HJ.out.2.2.2 rfl (by omega) (.slice wA acc2.length wc) acc2.length (rowFl acc2) (by rfl) hA.ww ⟨n9, 0, none⟩ 1 1 [.string ⟨s.toArray⟩, .string ⟨t7.toArray⟩] (by rfl) (by rfl) (World.news_of_block (cs := #[.string ⟨s.toArray⟩, .string ⟨t7.toArray⟩]) (t := 50) (fr := (0, 0)) hN) (by simp [Value.oneCell']) (by omega) (by unfold maxLen; omega) (by omega) hA.heap _ rfl ?_)
                intro g cap wv ho9 hg9 hat9 hl9
                obtain ⟨hP9, hA8⟩ := hA.addW (f := (⟨s.toArray⟩, t7)) ho9 hg9 hat9
                clear ho9 hg9 hat9 hl9 hN
                replace hA := hA8
                clear hA8
                refine hK.out _ _ ?_ (fun hHeld4 => ?_)
                · (try dsimp only)
                  first | done | trivial
                clear hK K hHeld3
                (try simp only [Act.put, List.setIfInBounds_toArray, List.set_cons_zero, List.set_cons_succ])
                refine wpAnyH_take (i := 8) (oi := ⟨some 67, _, _, _, _, _⟩) (v := ?_) rfl (by kernel_rfl) (by kernel_rfl) (by kernel_rfl) (fun _ _ _ h => h) (Or.inl ⟨by kernel_rfl, ?_⟩) (by assumption) ?_
                rotate_left
                · (intro w hSw; (try dsimp only at hSw); go_simp; (first | done | with_reducible rfl))
                (try simp only [Act.put, List.setIfInBounds_toArray, List.set_cons_zero, List.set_cons_succ])
                refine wpAnyH_ready (rs := [9]) (by kernel_rfl) (by simp) ?_
                refine AllReadyH.cons rfl (fun K hK => ?_) AllReadyH.nil
                have x0 := hP9.cell 1
                have f0 := hP9.free 1
                simp at x0
                go_simp
                refine name_world' ?_
                intro w8 hw8
                have hA8 := hA
                first
                | rw [← hw8] at hA8
                | (replace hA8 := hA8.drew; rw [← hw8] at hA8)
                clear hw8 x0 f0 hP9
                replace hA := hA8
                clear hA8
                obtain ⟨wv, hwv⟩ : ∃ x, x = w8 := ⟨_, rfl⟩
                subst hwv
                refine hK.out _ _ ?_ (fun hHeld5 => ?_)
                · (try dsimp only)
                  first | done | trivial
                clear hK K hHeld4
                (try simp only [Act.put, List.setIfInBounds_toArray, List.set_cons_zero, List.set_cons_succ])
                refine wpAnyH_done (by kernel_rfl) ?_ _
                go_wp2
                go_roundg q
                case measure => omega
                case rel => exact ⟨A7, c7, bad7, l7, _, acc2 ++ [(⟨s.toArray⟩, t7)], by go_num, by simp; omega, by omega, Lib.hid ⟨hA, HS6.out.2.next HT6.out HT7.out⟩⟩
              refine AllReadyH.cons (o := ⟨some 65, _, _, _, _, _⟩) rfl (fun K hK => ?_) AllReadyH.nil
              go_simp
              refine name_world' ?_
              intro w8 hw8
              have hA8 := hA.later (W' := w8) (by
                rw [hw8]
                first | exact Below.refl _ _ | exact (Below.refl _ _).drew | exact (Below.refl _ _).alloc (Nat.le_refl _) _ | exact ((Below.refl _ _).alloc (Nat.le_refl _) _).drew | exact ((Below.refl _ _).drew).alloc (Nat.le_refl _) _ | exact (((Below.refl _ _).drew).alloc (Nat.le_refl _) _).drew
                )
              have hN : Holds w8 wv.heap.size 50 #[.string ⟨s.toArray⟩, .string ⟨t7.toArray⟩] := by
                rw [hw8]
                first | exact Holds.new _ _ _ | exact (Holds.new _ _ _).drew | exact Holds.new wv.drew _ _ | exact (Holds.new wv.drew _ _).drew
              obtain ⟨n9, hn9⟩ : ∃ n9, wv.heap.size = n9 := ⟨_, rfl⟩
              rw [hn9] at hN
              (try rw [hn9])
              clear hn9 hw8
              replace hA := hA8
              clear hA8
              obtain ⟨wv, hwv⟩ : ∃ x, x = w8 := ⟨_, rfl⟩
              subst hwv
              refine hK.out _ _ ?_ (fun hHeld2 => ?_)
              · (try dsimp only)
                first | done | trivial
              clear hK K hHeld1
              (try simp only [Act.put, List.setIfInBounds_toArray, List.set_cons_zero, List.set_cons_succ])
              refine wpAnyH_ready (rs := [1]) (by kernel_rfl) (by simp) ?_
              refine AllReadyH.cons (o := ⟨some 60, _, _, _, _, _⟩) rfl (fun K hK => ?_) AllReadyH.nil
              have x0 := hA.pl.cell 1
              simp at x0
              go_simp
              refine name_world' ?_
              intro w8 hw8
              have hA8 := hA.later (W' := w8) (by
                rw [hw8]
                first | exact Below.refl _ _ | exact (Below.refl _ _).drew | exact (Below.refl _ _).alloc (Nat.le_refl _) _ | exact ((Below.refl _ _).alloc (Nat.le_refl _) _).drew | exact ((Below.refl _ _).drew).alloc (Nat.le_refl _) _ | exact (((Below.refl _ _).drew).alloc (Nat.le_refl _) _).drew
                )
              (try replace hN := holds_later (W' := w8) hN (by
                rw [hw8]
                first | exact Below.refl _ _ | exact (Below.refl _ _).drew | exact (Below.refl _ _).alloc (Nat.le_refl _) _ | exact ((Below.refl _ _).alloc (Nat.le_refl _) _).drew | exact ((Below.refl _ _).drew).alloc (Nat.le_refl _) _ | exact (((Below.refl _ _).drew).alloc (Nat.le_refl _) _).drew
                ))
              clear hw8
              replace hA := hA8
              clear hA8
              obtain ⟨wv, hwv⟩ : ∃ x, x = w8 := ⟨_, rfl⟩
              subst hwv
              clear x0
              refine hK.out _ _ ?_ (fun hHeld3 => ?_)
              · (try dsimp only)
                first | done | trivial
              clear hK K hHeld2
              (try simp only [Act.put, List.setIfInBounds_toArray, List.set_cons_zero, List.set_cons_succ])
              refine wpAnyH_ready (rs := [7]) (by kernel_rfl) (by simp) ?_
              refine AllReadyH.cons (o := ⟨some 66, _, _, _, _, _⟩) rfl (fun K hK => ?_) AllReadyH.nil
              first
              | refine step_append_lies _ (by rfl) _ _ _ (by rfl) (B + 2 + 1) 50 iw _ 2 32 Tryz.underlying39 HJ.out.1 HJ.out.2.1 HJ.out.2.2.1 HJ.out.2.2.2 rfl (by omega) (.slice wA acc2.length wc) acc2.length (rowFl acc2) (by rfl) hA.ww ⟨n9, 0, none⟩ 1 1 [.string ⟨s.toArray⟩, .string ⟨t7.toArray⟩] (by rfl) (by rfl) (World.news_of_block (cs := #[.string ⟨s.toArray⟩, .string ⟨t7.toArray⟩]) (t := 50) (fr := (0, 0)) hN) (by simp [Value.oneCell']) (by omega) (by unfold maxLen; omega) (by omega) hA.heap _ rfl ?_
              | (replace hA := hA.drew; refine step_append_lies _ (by rfl) _ _ _ (by rfl) (B + 2 + 1) 50 iw _ 2 32 Tryz.underlying39 HJ.out.1 HJ.out.2.1 HJ.out.2.2.1 HJ.out.2.2.2 rfl (by omega) (.slice wA acc2.length wc) acc2.length (rowFl acc2) (by rfl) hA.ww ⟨n9, 0, none⟩ 1 1 [.string ⟨s.toArray⟩, .string ⟨t7.toArray⟩] (by rfl) (by rfl) (World.news_of_block (cs := #[.string ⟨s.toArray⟩, .string ⟨t7.toArray⟩]) (t := 50) (fr := (0, 0)) hN) (by simp [Value.oneCell']) (by omega) (by unfold maxLen; omega) (by omega) hA.heap _ rfl ?_)
              intro g cap wv ho9 hg9 hat9 hl9
              obtain ⟨hP9, hA8⟩ := hA.addW (f := (⟨s.toArray⟩, t7)) ho9 hg9 hat9
              clear ho9 hg9 hat9 hl9 hN
              replace hA := hA8
              clear hA8
              refine hK.out _ _ ?_ (fun hHeld4 => ?_)
              · (try dsimp only)
                first | done | trivial
              clear hK K hHeld3
              (try simp only [Act.put, List.setIfInBounds_toArray, List.set_cons_zero, List.set_cons_succ])
              refine wpAnyH_take (i := 8) (oi := ⟨some 67, _, _, _, _, _⟩) (v := ?_) rfl (by kernel_rfl) (by kernel_rfl) (by kernel_rfl) (fun _ _ _ h => h) (Or.inl ⟨by kernel_rfl, ?_⟩) (by assumption) ?_
              rotate_left
              · (intro w hSw; (try dsimp only at hSw); go_simp; (first | done | with_reducible rfl))
              (try simp only [Act.put, List.setIfInBounds_toArray, List.set_cons_zero, List.set_cons_succ])
              refine wpAnyH_ready (rs := [9]) (by kernel_rfl) (by simp) ?_
              refine AllReadyH.cons rfl (fun K hK => ?_) AllReadyH.nil
              have x0 := hP9.cell 1
              have f0 := hP9.free 1
              simp at x0
              go_simp
              refine name_world' ?_
              intro w8 hw8
              have hA8 := hA
              first
              | rw [← hw8] at hA8
              | (replace hA8 := hA8.drew; rw [← hw8] at hA8)
              clear hw8 x0 f0 hP9
              replace hA := hA8
              clear hA8
              obtain ⟨wv, hwv⟩ : ∃ x, x = w8 := ⟨_, rfl⟩
              subst hwv
              refine hK.out _ _ ?_ (fun hHeld5 => ?_)
              · (try dsimp only)
                first | done | trivial
              clear hK K hHeld4
              (try simp only [Act.put, List.setIfInBounds_toArray, List.set_cons_zero, List.set_cons_succ])
              refine wpAnyH_done (by kernel_rfl) ?_ _
              go_wp2
              go_roundg q
              case measure => omega
              case rel => exact ⟨A7, c7, bad7, l7, _, acc2 ++ [(⟨s.toArray⟩, t7)], by go_num, by simp; omega, by omega, Lib.hid ⟨hA, HS6.out.2.next HT6.out HT7.out⟩⟩
            · have hx : bad6 = true ∨ (bad6 = false ∧ gk = 0) := by
                cases bad6 with
                | true => exact .inl rfl
                | false => exact .inr ⟨rfl, by
                    apply Classical.byContradiction
                    intro h0
                    exact hgo ⟨by omega, rfl⟩⟩
              clear hgo
              obtain ⟨xA, xc, rfl, _⟩ := own_slice2 HS6.out.1.rr
              obtain ⟨yA, yc, rfl, _⟩ := own_slice2 HS6.out.1.ww
              have q7 := HS6.out.1.rd.h.cell 0
              have z0 := HS6.out.1.re.cell 0
              have z1 := HS6.out.1.re.cell 1
              have zf0 := HS6.out.1.re.free 0
              have zf1 := HS6.out.1.re.free 1
              have y0 := HS6.out.1.pl.cell 0
              have y1 := HS6.out.1.pl.cell 1
              simp at q7 z0 z1 y0 y1
              have HF := Lib.hid (HS6.out.1.ret (.slice none 0 0) (.slice none 0 0))
              have HG := Lib.hid (HS6.out.1.ret (.slice xA acc.length xc) (.slice yA acc2.length yc))
              rcases hx with rfl | ⟨rfl, rfl⟩
              · have hnone := Lib.hid HS6.out.2.bad_
                by_cases hg0 : gk = 0
                · subst hg0
                  go_wp2_with fail
                  (try simp only [Exit.inBlock, Exit.then])
                  refine bodyPost_ret (results_row_tmp rfl _ _ B _ _ _ _ rfl HF.out.2.1 Tryz.underlying64 rfl plan_size) rfl ?_
                  exact ⟨HF.out.1, .inr ⟨hnone.out, rfl⟩⟩
                · have hg1 : 0 < gk := by omega
                  go_wp2_with fail
                  (try simp only [Exit.inBlock, Exit.then])
                  refine bodyPost_ret (results_row_tmp rfl _ _ B _ _ _ _ rfl HF.out.2.1 Tryz.underlying64 rfl plan_size) rfl ?_
                  exact ⟨HF.out.1, .inr ⟨hnone.out, rfl⟩⟩
              · by_cases hll : 0 < l6.length
                · have hnone := Lib.hid (HS6.out.2.more hll)
                  go_wp2_with fail
                  (try simp only [Exit.inBlock, Exit.then])
                  refine bodyPost_ret (results_row_tmp rfl _ _ B _ _ _ _ rfl HF.out.2.1 Tryz.underlying64 rfl plan_size) rfl ?_
                  exact ⟨HF.out.1, .inr ⟨hnone.out, rfl⟩⟩
                · have hl0 : l6.length = 0 := by omega
                  have hsome := Lib.hid (HS6.out.2.whole hl0)
                  rw [hl0] at q7
                  go_wp2_with fail
                  (try simp only [Exit.inBlock, Exit.then])
                  refine bodyPost_ret (results_row_tmp rfl _ _ B _ _ _ _ rfl HG.out.2.1 Tryz.underlying64 rfl plan_size) rfl ?_
                  exact ⟨HG.out.1, .inl ⟨_, _, _, hsome.out, rfl, HG.out.2.2.1, HG.out.2.2.2, by show acc.length ≤ 8388608; omega, by show acc2.length ≤ 8388608; omega⟩⟩)
end Go.Proofs.YtmldpehkacemfaaGreatDoor
namespace Go.Proofs.YtmldpehkacemfaaGreatDoor
open Go.RowKit Go.Bd
def cntOf (fs : Fs) : Option Nat := ((List.range 99).filter fun n => (getB fs (cntN n)).isSome).getLast?
def settleM (fs : Fs) : Nat × List DOp :=
  let t : List DOp := if (getB fs trialN).isSome = true then [.rm trialN] else []
  match cntOf fs with
  | none => (0, t)
  | some n =>
    if n = 0 ∨ getB fs (cntN (n - 1)) = none then (n, t ++ if (getB fs (cntN n)).getD [] = [] then [] else [.wr (cntN n) []])
    else match readP ((getB fs (cntN n)).getD []) with
      | none => (n - 1, t ++ [.rm (cntN n)])
      | some p => (n, t ++ (p.ops ++ [.rm (cntN (n - 1)), .wr (cntN n) []]))
theorem cntOf_some {fs : Fs} {n : Nat} (hn : n < 99) (h : getB fs (cntN n) ≠ none) (hm : ∀ m, n < m → m < 99 → getB fs (cntN m) = none) : cntOf fs = some n := by
  unfold cntOf
  have e : List.range 99 = List.range n ++ (n :: (List.range (98 - n)).map (fun x => n + 1 + x)) := by
    apply List.ext_getElem
    · simp; omega
    · intro i h1 h2
      simp only [List.getElem_range]
      by_cases hi : i < n
      · rw [List.getElem_append_left (by simpa using hi)]; simp
      · rw [List.getElem_append_right (by simp; omega)]
        by_cases hi2 : i = n
        · subst hi2; simp
        · obtain ⟨j, rfl⟩ : ∃ j, i = n + 1 + j := ⟨i - n - 1, by omega⟩
          have e3 : n + 1 + j - (List.range n).length = j + 1 := by simp; omega
          simp only [e3, List.getElem_cons_succ, List.getElem_map, List.getElem_range]
  have e2 : ((List.range (98 - n)).map (fun x => n + 1 + x)).filter (fun n => (getB fs (cntN n)).isSome) = [] := by
    rw [List.filter_eq_nil_iff]
    intro x hx
    obtain ⟨y, hy, rfl⟩ := List.mem_map.1 hx
    rw [hm _ (by omega) (by have := List.mem_range.1 hy; omega)]
    simp
  rw [e, List.filter_append, List.filter_cons_of_pos (by cases hg : getB fs (cntN n) with | none => exact absurd hg h | some _ => rfl), e2]
  simp
theorem cntOf_none {fs : Fs} (h : ∀ m < 99, getB fs (cntN m) = none) : cntOf fs = none := by
  unfold cntOf
  have e2 : (List.range 99).filter (fun n => (getB fs (cntN n)).isSome) = [] := by
    rw [List.filter_eq_nil_iff]
    intro x hx
    rw [h x (List.mem_range.1 hx)]
    simp
  rw [e2]; rfl
def Only (fs : Fs) (l : List ByteArray) : Prop := ∀ s, ownB s = false → s ∉ l → getB fs s = none
theorem Only.del {fs : Fs} {l : List ByteArray} (h : Only fs l) (s : ByteArray) : Only (delB fs s) l := fun t ht hl => by
  by_cases e : t = s
  · subst e; exact getB_del_same fs t
  · rw [getB_del_other fs e]; exact h t ht hl
theorem Only.set {fs : Fs} {l : List ByteArray} (h : Only fs l) {s : ByteArray} (hs : ownB s = true ∨ s ∈ l) (b : Bs) : Only (setB fs s b) l := fun t ht hl => by
  have e : t ≠ s := by
    rintro rfl
    rcases hs with h1 | h1
    · rw [ht] at h1; cases h1
    · exact hl h1
  rw [getB_set_other fs b e]; exact h t ht hl
theorem Only.less {fs : Fs} {l m : List ByteArray} (h : Only fs l) (hm : ∀ s ∈ l, s ∉ m → getB fs s = none) : Only fs m := fun s hs hl => by
  by_cases e : s ∈ l
  · exact hm s e hl
  · exact h s hs e
def Owns (S fs : Fs) : Prop := ∀ s, ownB s = true → getB fs s = getB S s
theorem Owns.del {S fs : Fs} (h : Owns S fs) {s : ByteArray} (hs : ownB s = false) : Owns S (delB fs s) := fun t ht => by
  rw [getB_del_other fs (by rintro rfl; rw [hs] at ht; cases ht)]; exact h t ht
theorem Owns.set {S fs : Fs} (h : Owns S fs) {s : ByteArray} (hs : ownB s = false) (b : Bs) : Owns S (setB fs s b) := fun t ht => by
  rw [getB_set_other fs b (by rintro rfl; rw [hs] at ht; cases ht)]; exact h t ht
structure Ph0 (n : Nat) (S fs : Fs) : Prop where
  u : UniqB fs
  own : Owns S fs
  only : Only fs [trialN, cntN n]
  cnt : getB fs (cntN n) = some [] ∨ (n = 0 ∧ getB fs (cntN 0) = none)
structure Ph1 (n : Nat) (S fs : Fs) : Prop where
  u : UniqB fs
  own : Owns S fs
  only : Only fs [cntN n, cntN (n + 1)]
  cnt : getB fs (cntN n) = some []
  log : ∃ b, getB fs (cntN (n + 1)) = some b ∧ readP b = none
structure Ph3 (size n : Nat) (S fs : Fs) : Prop where
  u : UniqB fs
  own : Owns S fs
  only : Only fs [cntN n]
  cnt : getB fs (cntN n) ≠ none
  room : usedB fs ≤ size
structure Plan.Fit (p : Plan) (size n : Nat) (S : Fs) (T : List ByteArray) (c : ByteArray → Nat) : Prop where
  ok : p.Ok
  rm : ∀ s ∈ p.rm, nameB s = true ∧ ownB s = true ∧ getB S s = none
  wr : ∀ f ∈ p.wr, nameB f.1 = true ∧ ownB f.1 = true ∧ getB S f.1 = some f.2 ∧ f.1 ∈ T ∧ f.2.length ≤ c f.1
  nd : (p.wr.map (·.1)).Nodup
  len : T.length ≤ 256
  tn : T.Nodup
  tc : cntN n ∈ T ∧ cntN (n + 1) ∈ T
  sum : ∀ N : List ByteArray, N.Nodup → (∀ s ∈ N, s ∈ T ∨ s ∈ p.rm) → 2 * (N.map c).sum ≤ size
structure Ph2 (size n : Nat) (p : Plan) (S fs : Fs) (T : List ByteArray) (c : ByteArray → Nat) : Prop where
  u : UniqB fs
  own : ∀ s, ownB s = true → s ∉ p.rm → (∀ f ∈ p.wr, f.1 ≠ s) → getB fs s = getB S s
  only : Only fs [cntN n, cntN (n + 1)]
  cnt : getB fs (cntN n) = some []
  log : getB fs (cntN (n + 1)) = some p.log
  fit : p.Fit size n S T c
  names : ∀ s, getB fs s ≠ none → s ∈ T ∨ s ∈ p.rm
  lens : ∀ s b, getB fs s = some b → b.length ≤ c s
def Rec (size n : Nat) (S fs : Fs) : Prop := Ph0 n S fs ∨ Ph1 n S fs ∨ (∃ m p T c, n = m + 1 ∧ Ph2 size m p S fs T c) ∨ Ph3 size n S fs
def Clean (n : Nat) (S fs : Fs) : Prop := Ph0 n S fs ∧ getB fs trialN = none
theorem used_le {c : ByteArray → Nat} : ∀ {fs : Fs}, (∀ f ∈ fs, f.2.length ≤ c f.1) → usedB fs ≤ ((fs.map (·.1)).map c).sum
  | [], _ => by simp [usedB]
  | f :: fs, h => by
    have h1 := h f (List.mem_cons_self ..)
    have h2 := used_le (fs := fs) (c := c) (fun g hg => h g (List.mem_cons_of_mem _ hg))
    unfold usedB at h2 ⊢
    simp only [List.map_cons, List.sum_cons]
    omega
theorem names_nodup {fs : Fs} (h : UniqB fs) : (fs.map (·.1)).Nodup := by
  rw [List.nodup_iff_pairwise_ne, List.pairwise_map]
  exact h
theorem nodup_le {α : Type} [DecidableEq α] {l m : List α} (hl : l.Nodup) (h : ∀ x ∈ l, x ∈ m) : l.length ≤ m.length := by
  induction l generalizing m with
  | nil => simp
  | cons a l ih =>
    have h1 := List.nodup_cons.1 hl
    have ha := h a (List.mem_cons_self ..)
    have h2 := ih (m := m.erase a) h1.2 (fun x hx => by
      have hne : x ≠ a := by rintro rfl; exact h1.1 hx
      exact (List.mem_erase_of_ne hne).2 (h x (List.mem_cons_of_mem _ hx)))
    rw [List.length_erase_of_mem ha] at h2
    have := List.length_pos_of_mem ha
    rw [List.length_cons]; omega
theorem nodup_lt {α : Type} [DecidableEq α] {l m : List α} (hl : l.Nodup) (h : ∀ x ∈ l, x ∈ m) {a : α} (ha : a ∈ m) (hn : a ∉ l) : l.length < m.length := by
  have := nodup_le (l := a :: l) (m := m) (List.nodup_cons.2 ⟨hn, hl⟩) (fun x hx => by
    rcases List.mem_cons.1 hx with rfl | h1
    · exact ha
    · exact h x h1)
  rw [List.length_cons] at this; omega
end Go.Proofs.YtmldpehkacemfaaGreatDoor
namespace Go.Proofs.YtmldpehkacemfaaGreatDoor
open Go.RowKit Go.Bd
theorem remove_there {fs : Fs} {s : ByteArray} (hs : nameB s = true) (h : getB fs s ≠ none) : removeE fs s = 0 := by
  unfold removeE
  rw [if_pos hs, if_pos]
  cases hg : getB fs s with
  | none => exact absurd hg h
  | some _ => rfl
theorem run_rm (size : Nat) (h : List Raw) {s : ByteArray} (hs : nameB s = true) :
    getB (runR (h ++ DOp.raws size (runR h) (.rm s))) s = none ∧ ∀ t, t ≠ s → getB (runR (h ++ DOp.raws size (runR h) (.rm s))) t = getB (runR h) t := by
  rw [run_op]
  simp only
  by_cases hg : getB (runR h) s = none
  · have : removeE (runR h) s ≠ 0 := by
      unfold removeE
      rw [if_pos hs, hg]
      simp
    rw [if_neg this]
    exact ⟨hg, fun _ _ => rfl⟩
  · rw [if_pos (remove_there hs hg)]
    exact ⟨getB_del_same _ _, fun t ht => getB_del_other _ ht⟩
section
variable {size n : Nat} {p : Plan} {S fs : Fs} {T : List ByteArray} {c : ByteArray → Nat}
theorem cnt_ne {m k : Nat} (hm : m < 99) (hk : k < 99) (h : m ≠ k) : cntN m ≠ cntN k := fun e => h (cnt_inj hm hk e)
theorem Ph2.del (h : Ph2 size n p S fs T c) {s : ByteArray} (hs : s ∈ p.rm) : Ph2 size n p S (delB fs s) T c := by
  have ho := (h.fit.rm s hs).2.1
  have hne : ∀ m, cntN m ≠ s := fun m e => by rw [← e, own_cnt] at ho; cases ho
  refine ⟨h.u.del s, fun t ht h1 h2 => ?_, h.only.del s, ?_, ?_, h.fit, fun t ht => ?_, fun t b hb => ?_⟩
  · rw [getB_del_other fs (by rintro rfl; exact h1 hs)]; exact h.own t ht h1 h2
  · rw [getB_del_other fs (hne _)]; exact h.cnt
  · rw [getB_del_other fs (hne _)]; exact h.log
  · by_cases e : t = s
    · subst e; rw [getB_del_same] at ht; exact absurd rfl ht
    · rw [getB_del_other fs e] at ht; exact h.names t ht
  · by_cases e : t = s
    · subst e; rw [getB_del_same] at hb; cases hb
    · rw [getB_del_other fs e] at hb; exact h.lens t b hb
theorem Ph2.set (h : Ph2 size n p S fs T c) {f : ByteArray × Bs} (hf : f ∈ p.wr) (m : Nat) : Ph2 size n p S (setB fs f.1 (f.2.take m)) T c := by
  obtain ⟨_, ho, _, hT, hl⟩ := h.fit.wr f hf
  have hne : ∀ m, cntN m ≠ f.1 := fun m e => by rw [← e, own_cnt] at ho; cases ho
  refine ⟨h.u.set _ _, fun t ht h1 h2 => ?_, h.only.set (.inl ho) _, ?_, ?_, h.fit, fun t ht => ?_, fun t b hb => ?_⟩
  · rw [getB_set_other fs _ (fun e => h2 f hf e.symm)]; exact h.own t ht h1 h2
  · rw [getB_set_other fs _ (hne _)]; exact h.cnt
  · rw [getB_set_other fs _ (hne _)]; exact h.log
  · by_cases e : t = f.1
    · subst e; exact .inl hT
    · rw [getB_set_other fs _ e] at ht; exact h.names t ht
  · by_cases e : t = f.1
    · subst e
      rw [getB_set_same] at hb
      injection hb with hb
      subst hb
      rw [List.length_take]; omega
    · rw [getB_set_other fs _ e] at hb; exact h.lens t b hb
theorem Ph2.used (h : Ph2 size n p S fs T c) : 2 * usedB fs ≤ size := by
  have h1 := used_le (fs := fs) (c := c) (fun f hf => h.lens f.1 f.2 (getB_of_mem h.u hf))
  have h2 := h.fit.sum (fs.map (·.1)) (names_nodup h.u) (fun s hs => by
    obtain ⟨f, hf, rfl⟩ := List.mem_map.1 hs
    exact h.names _ (by rw [getB_of_mem h.u hf]; simp))
  omega
theorem le_sum : ∀ {l : List Nat} {x : Nat}, x ∈ l → x ≤ l.sum
  | a :: l, x, h => by
    rw [List.sum_cons]
    rcases List.mem_cons.1 h with rfl | h1
    · omega
    · have := le_sum h1; omega
theorem Ph2.write (h : Ph2 size n p S fs T c) {f : ByteArray × Bs} (hf : f ∈ p.wr) (hT : ∀ s, getB fs s ≠ none → s ∈ T) : writeE fs size f.1 f.2 = 0 := by
  obtain ⟨hn, ho, _, hfT, hl⟩ := h.fit.wr f hf
  have hin : ∀ s ∈ fs.map (·.1), s ∈ T := fun s hs => by
    obtain ⟨g, hg, rfl⟩ := List.mem_map.1 hs
    exact hT _ (by rw [getB_of_mem h.u hg]; simp)
  have h1 := used_le (fs := fs) (c := c) (fun f hf => h.lens f.1 f.2 (getB_of_mem h.u hf))
  unfold writeE
  rw [if_pos hn, if_neg, if_neg]
  · by_cases hm : f.1 ∈ fs.map (·.1)
    · have h2 := h.fit.sum (fs.map (·.1)) (names_nodup h.u) (fun s hs => .inl (hin s hs))
      have h3 : c f.1 ≤ ((fs.map (·.1)).map c).sum := le_sum (List.mem_map.2 ⟨_, hm, rfl⟩)
      omega
    · have h2 := h.fit.sum (f.1 :: fs.map (·.1)) (List.nodup_cons.2 ⟨hm, names_nodup h.u⟩) (fun s hs => by
        rcases List.mem_cons.1 hs with rfl | h4
        · exact .inl hfT
        · exact .inl (hin s h4))
      rw [List.map_cons, List.sum_cons] at h2
      omega
  · rintro ⟨h2, h3⟩
    have hnf : f.1 ∉ fs.map (·.1) := fun hm => by
      obtain ⟨g, hg, e⟩ := List.mem_map.1 hm
      have := getB_of_mem h.u (s := g.1) (b := g.2) hg
      rw [e] at this
      rw [this] at h2
      cases h2
    have := nodup_lt (names_nodup h.u) hin hfT hnf
    have h5 := h.fit.len
    rw [List.length_map] at this
    omega
theorem rms_along : ∀ (l : List ByteArray) (h : List Raw), (∀ s ∈ l, s ∈ p.rm) → Ph2 size n p S (runR h) T c →
    Along (fun fs => Ph2 size n p S fs T c) h (runO size (l.map .rm) h) ∧ (∀ s ∈ l, getB (runR (runO size (l.map .rm) h)) s = none) ∧ ∀ s, s ∉ l → getB (runR (runO size (l.map .rm) h)) s = getB (runR h) s
  | [], h, _, hp => ⟨Along.refl hp, fun s hs => (by cases hs), fun s _ => rfl⟩
  | s :: l, h, hl, hp => by
    have hs := hl s (List.mem_cons_self ..)
    have hn := (hp.fit.rm s hs).1
    have a1 := along_rm (P := fun fs => Ph2 size n p S fs T c) (size := size) (h := h) s hp (fun _ => hp.del hs)
    have e1 := a1.at_end (by simp)
    obtain ⟨a2, b2, c2⟩ := rms_along l _ (fun t ht => hl t (List.mem_cons_of_mem _ ht)) e1
    have r1 := run_rm size h hn
    refine ⟨a1.trans a2 (runO_more size (l.map .rm) (h ++ DOp.raws size (runR h) (.rm s))), fun t ht => ?_, fun t ht => ?_⟩
    · by_cases e : t ∈ l
      · exact b2 t e
      · obtain rfl : t = s := by
          rcases List.mem_cons.1 ht with h1 | h1
          · exact h1
          · exact absurd h1 e
        exact (c2 t e).trans r1.1
    · have h1 : t ≠ s ∧ t ∉ l := ⟨fun e => ht (by rw [e]; exact List.mem_cons_self ..), fun e => ht (List.mem_cons_of_mem _ e)⟩
      exact (c2 t h1.2).trans (r1.2 t h1.1)
theorem wrs_along : ∀ (l : List (ByteArray × Bs)) (h : List Raw), (∀ f ∈ l, f ∈ p.wr) → (l.map (·.1)).Nodup → Ph2 size n p S (runR h) T c → (∀ s, getB (runR h) s ≠ none → s ∈ T) →
    Along (fun fs => Ph2 size n p S fs T c) h (runO size (l.map fun f => .wr f.1 f.2) h) ∧ (∀ f ∈ l, getB (runR (runO size (l.map fun f => .wr f.1 f.2) h)) f.1 = some f.2) ∧ ∀ s, s ∉ l.map (·.1) → getB (runR (runO size (l.map fun f => .wr f.1 f.2) h)) s = getB (runR h) s
  | [], h, _, _, hp, _ => ⟨Along.refl hp, fun s hs => (by cases hs), fun s _ => rfl⟩
  | f :: l, h, hl, hd, hp, hT => by
    have hf := hl f (List.mem_cons_self ..)
    have hd' := List.nodup_cons.1 hd
    have hw := hp.write hf hT
    have a1 := along_wr (P := fun fs => Ph2 size n p S fs T c) (size := size) (h := h) f.1 f.2 hp (fun _ m => hp.set hf m)
    have e1 := a1.at_end (by simp)
    have r1 := run_op size h (.wr f.1 f.2)
    simp only [hw, if_true] at r1
    obtain ⟨a2, b2, c2⟩ := wrs_along l (h ++ DOp.raws size (runR h) (.wr f.1 f.2)) (fun t ht => hl t (List.mem_cons_of_mem _ ht)) hd'.2 e1 (fun s hs => by
      rw [r1] at hs
      by_cases e : s = f.1
      · subst e; exact (hp.fit.wr f hf).2.2.2.1
      · rw [getB_set_other _ _ e] at hs; exact hT s hs)
    refine ⟨a1.trans a2 (runO_more size (l.map fun f => .wr f.1 f.2) (h ++ DOp.raws size (runR h) (.wr f.1 f.2))), fun g hg => ?_, fun t ht => ?_⟩
    · rcases List.mem_cons.1 hg with rfl | h1
      · exact (c2 g.1 hd'.1).trans (by rw [r1, getB_set_same])
      · exact b2 g h1
    · rw [List.map_cons] at ht
      have h1 : t ≠ f.1 ∧ t ∉ l.map (·.1) := ⟨fun e => ht (by rw [e]; exact List.mem_cons_self ..), fun e => ht (List.mem_cons_of_mem _ e)⟩
      exact (c2 t h1.2).trans (by rw [r1, getB_set_other _ _ h1.1])
theorem plan_along {h : List Raw} (hp : Ph2 size n p S (runR h) T c) :
    Along (fun fs => Ph2 size n p S fs T c) h (runO size p.ops h) ∧ Owns S (runR (runO size p.ops h)) := by
  obtain ⟨a1, b1, c1⟩ := rms_along p.rm h (fun _ h => h) hp
  have e1 := a1.at_end (runO_len size _ _)
  have hnT : ∀ s, getB (runR (runO size (p.rm.map .rm) h)) s ≠ none → s ∈ T := fun s hs => by
    rcases e1.names s hs with h1 | h1
    · exact h1
    · exact absurd (b1 s h1) hs
  obtain ⟨a2, b2, c2⟩ := wrs_along p.wr _ (fun _ h => h) hp.fit.nd e1 hnT
  have e2 := a2.at_end (runO_len size _ _)
  unfold Plan.ops
  rw [runO_app]
  refine ⟨a1.trans a2 (runO_more size _ _), fun s hs => ?_⟩
  by_cases hw : ∃ f ∈ p.wr, f.1 = s
  · obtain ⟨f, hf, rfl⟩ := hw
    rw [b2 f hf, (hp.fit.wr f hf).2.2.1]
  · have hw' : s ∉ p.wr.map (·.1) := fun h1 => by
      obtain ⟨f, hf, e⟩ := List.mem_map.1 h1
      exact hw ⟨f, hf, e⟩
    by_cases hr : s ∈ p.rm
    · rw [c2 s hw', b1 s hr, (hp.fit.rm s hr).2.2]
    · exact e2.own s hs hr (fun f hf e => hw ⟨f, hf, e⟩)
theorem empty_along {h : List Raw} (hn : n < 99) (hp : Ph3 size n S (runR h)) :
    Along (fun fs => Ph3 size n S fs) h (runO size [.wr (cntN n) []] h) ∧ Clean n S (runR (runO size [.wr (cntN n) []] h)) := by
  have hw : writeE (runR h) size (cntN n) [] = 0 := by
    unfold writeE
    rw [if_pos (name_cnt n hn), if_neg, if_neg]
    · have h1 := hp.room
      simp
      omega
    · rintro ⟨h1, _⟩
      exact hp.cnt (by simpa using h1)
  have hset : Ph3 size n S (setB (runR h) (cntN n) []) := by
    refine ⟨hp.u.set _ _, hp.own.set (own_cnt n) _, hp.only.set (.inr (by simp)) _, by rw [getB_set_same]; simp, ?_⟩
    have h1 := used_set hp.u (cntN n) []
    have h2 := hp.room
    simp at h1
    omega
  have a1 := along_wr (P := fun fs => Ph3 size n S fs) (size := size) (h := h) (cntN n) [] hp (fun _ m => by rw [List.take_nil]; exact hset)
  have r1 := run_op size h (.wr (cntN n) [])
  simp only [hw, if_true] at r1
  refine ⟨a1, ?_⟩
  show Clean n S (runR (h ++ DOp.raws size (runR h) (.wr (cntN n) [])))
  rw [r1]
  refine ⟨⟨hset.u, hset.own, hset.only.less (fun s hs h1 => absurd (by simpa using hs) (fun e => h1 (by rw [e]; simp))), .inl (getB_set_same _ _ _)⟩, ?_⟩
  exact hset.only trialN own_trial (by simpa using (cnt_trial n).symm)
end
end Go.Proofs.YtmldpehkacemfaaGreatDoor
namespace Go.Proofs.YtmldpehkacemfaaGreatDoor
open Go.RowKit Go.Bd
section
variable {size n : Nat} {p : Plan} {S fs : Fs} {T : List ByteArray} {c : ByteArray → Nat}
theorem Ph0.delT (h : Ph0 n S fs) : Clean n S (delB fs trialN) := by
  have hne : ∀ m, cntN m ≠ trialN := cnt_trial
  refine ⟨⟨h.u.del _, h.own.del own_trial, h.only.del _, ?_⟩, getB_del_same _ _⟩
  rcases h.cnt with h1 | ⟨h1, h2⟩
  · exact .inl (by rw [getB_del_other fs (hne _)]; exact h1)
  · exact .inr ⟨h1, by rw [getB_del_other fs (hne _)]; exact h2⟩
theorem Ph0.setT (h : Ph0 n S fs) (b : Bs) : Ph0 n S (setB fs trialN b) := by
  have hne : ∀ m, cntN m ≠ trialN := cnt_trial
  refine ⟨h.u.set _ _, h.own.set own_trial _, h.only.set (.inr (by simp)) _, ?_⟩
  rcases h.cnt with h1 | ⟨h1, h2⟩
  · exact .inl (by rw [getB_set_other fs _ (hne _)]; exact h1)
  · exact .inr ⟨h1, by rw [getB_set_other fs _ (hne _)]; exact h2⟩
theorem run_rm_yes (size : Nat) (h : List Raw) {s : ByteArray} (hs : nameB s = true) (hg : getB (runR h) s ≠ none) : runR (h ++ DOp.raws size (runR h) (.rm s)) = delB (runR h) s := by
  have h1 := run_rawsD h s
  rw [if_pos (remove_there hs hg)] at h1
  exact h1
theorem rmT_along {h : List Raw} (hp : Ph0 n S (runR h)) : Along (fun fs => Ph0 n S fs) h (runO size [.rm trialN] h) ∧ Clean n S (runR (runO size [.rm trialN] h)) := by
  have a1 := along_rm (P := fun fs => Ph0 n S fs) (size := size) (h := h) trialN hp (fun _ => hp.delT.1)
  refine ⟨a1, ?_⟩
  show Clean n S (runR (h ++ DOp.raws size (runR h) (.rm trialN)))
  exact ⟨a1.at_end (by simp), (run_rm size h name_trial).1⟩
theorem ph2_along {h : List Raw} (hn : n < 98) (hp : Ph2 size n p S (runR h) T c) :
    Along (fun fs => (Ph2 size n p S fs T c) ∨ Ph3 size (n + 1) S fs) h (runO size (p.ops ++ [.rm (cntN n), .wr (cntN (n + 1)) []]) h) ∧ Clean (n + 1) S (runR (runO size (p.ops ++ [.rm (cntN n), .wr (cntN (n + 1)) []]) h)) := by
  obtain ⟨a1, o1⟩ := plan_along hp
  have e1 := a1.at_end (runO_len size _ _)
  rw [runO_app]
  generalize hq : runO size p.ops h = h1 at a1 o1 e1
  have hmore : ∃ r, h1 = h ++ r := by
    obtain ⟨r, hr⟩ := runO_more size p.ops h
    exact ⟨r, by rw [← hq]; exact hr⟩
  have hcc : cntN n ≠ cntN (n + 1) := cnt_ne (by omega) (by omega) (by omega)
  have h3 : Ph3 size (n + 1) S (delB (runR h1) (cntN n)) := by
    refine ⟨e1.u.del _, o1.del (own_cnt n), ?_, ?_, ?_⟩
    · refine (e1.only.del _).less (fun s hs h2 => ?_)
      rcases List.mem_cons.1 hs with rfl | h4
      · exact getB_del_same _ _
      · exact absurd h4 h2
    · rw [getB_del_other _ hcc.symm, e1.log]; simp
    · have h5 := used_del e1.u (cntN n)
      have h6 := e1.used
      omega
  have a2 := along_rm (P := fun fs => (Ph2 size n p S fs T c) ∨ Ph3 size (n + 1) S fs) (size := size) (h := h1) (cntN n) (.inl e1) (fun _ => .inr h3)
  have r2 := run_rm_yes size h1 (name_cnt n (by omega)) (by rw [e1.cnt]; simp)
  have h3' : Ph3 size (n + 1) S (runR (h1 ++ DOp.raws size (runR h1) (.rm (cntN n)))) := by rw [r2]; exact h3
  obtain ⟨a3, c3⟩ := empty_along (by omega) h3'
  refine ⟨((a1.mono fun _ h => .inl h).trans (a2.trans (a3.mono fun _ h => .inr h) (runO_more size [.wr (cntN (n + 1)) []] (h1 ++ DOp.raws size (runR h1) (.rm (cntN n))))) ?_), c3⟩
  obtain ⟨r, hr⟩ := runO_more size [.wr (cntN (n + 1)) []] (h1 ++ DOp.raws size (runR h1) (.rm (cntN n)))
  exact ⟨DOp.raws size (runR h1) (.rm (cntN n)) ++ r, by rw [← List.append_assoc]; exact hr⟩
theorem only_none {l : List ByteArray} (h : Only fs l) {m : Nat} (hm : cntN m ∉ l) : getB fs (cntN m) = none := h _ (own_cnt m) hm
theorem settle_rec {h : List Raw} (hn : n < 98) (hr : Rec size n S (runR h)) :
    (settleM (runR h)).1 = n ∧ Along (fun fs => Rec size n S fs) h (runO size (settleM (runR h)).2 h) ∧ Clean n S (runR (runO size (settleM (runR h)).2 h)) := by
  rcases hr with hp | hp | ⟨m, p, T, c, rfl, hp⟩ | hp
  · have hs : settleM (runR h) = (n, if (getB (runR h) trialN).isSome = true then [.rm trialN] else []) := by
      unfold settleM
      rcases hp.cnt with h1 | ⟨h1, h2⟩
      · have e1 : cntOf (runR h) = some n := cntOf_some (by omega) (by rw [h1]; simp) (fun m h3 h4 => only_none hp.only (by simpa using ⟨cnt_trial m, cnt_ne h4 (by omega) (by omega)⟩))
        rw [e1]
        simp only
        rw [if_pos, h1]
        · simp
        · by_cases h0 : n = 0
          · exact .inl h0
          · exact .inr (only_none hp.only (by simpa using ⟨cnt_trial _, cnt_ne (by omega) (by omega) (by omega)⟩))
      · subst h1
        have e1 : cntOf (runR h) = none := cntOf_none (fun m h4 => by
          by_cases h0 : m = 0
          · subst h0; exact h2
          · exact only_none hp.only (by simpa using ⟨cnt_trial m, cnt_ne h4 (by omega) h0⟩))
        rw [e1]
    rw [hs]
    refine ⟨rfl, ?_⟩
    simp only
    by_cases ht : (getB (runR h) trialN).isSome = true
    · rw [if_pos ht]
      obtain ⟨a1, c1⟩ := rmT_along (size := size) hp
      exact ⟨a1.mono fun _ h => .inl h, c1⟩
    · rw [if_neg ht]
      exact ⟨Along.refl (.inl hp), hp, by cases hg : getB (runR h) trialN with | none => exact hg | some _ => rw [hg] at ht; exact absurd rfl ht⟩
  · obtain ⟨b, hb, hrb⟩ := hp.log
    have ht : getB (runR h) trialN = none := hp.only _ own_trial (by simpa using ⟨(cnt_trial n).symm, (cnt_trial (n + 1)).symm⟩)
    have hcc : cntN n ≠ cntN (n + 1) := cnt_ne (by omega) (by omega) (by omega)
    have hs : settleM (runR h) = (n, [.rm (cntN (n + 1))]) := by
      unfold settleM
      have e1 : cntOf (runR h) = some (n + 1) := cntOf_some (by omega) (by rw [hb]; simp) (fun m h3 h4 => only_none hp.only (by simpa using ⟨cnt_ne h4 (by omega) (by omega), cnt_ne h4 (by omega) (by omega)⟩))
      rw [e1]
      simp only
      rw [if_neg, hb, ht]
      · simp [hrb]
      · rw [Nat.add_sub_cancel, hp.cnt]; simp
    rw [hs]
    have hcl : Clean n S (delB (runR h) (cntN (n + 1))) := by
      refine ⟨⟨hp.u.del _, hp.own.del (own_cnt _), ?_, .inl ?_⟩, ?_⟩
      · intro s h1 h2
        by_cases e : s = cntN (n + 1)
        · subst e; exact getB_del_same _ _
        · rw [getB_del_other _ e]
          refine hp.only s h1 ?_
          simp at h2 ⊢
          exact ⟨h2.2, e⟩
      · rw [getB_del_other _ hcc]; exact hp.cnt
      · rw [getB_del_other _ (cnt_trial _).symm]; exact ht
    have a1 := along_rm (P := fun fs => Rec size n S fs) (size := size) (h := h) (cntN (n + 1)) (.inr (.inl hp)) (fun _ => .inl hcl.1)
    refine ⟨rfl, a1, ?_⟩
    show Clean n S (runR (h ++ DOp.raws size (runR h) (.rm (cntN (n + 1)))))
    rw [run_rm_yes size h (name_cnt (n + 1) (by omega)) (by rw [hb]; simp)]; exact hcl
  · have ht : getB (runR h) trialN = none := hp.only _ own_trial (by simpa using ⟨(cnt_trial m).symm, (cnt_trial (m + 1)).symm⟩)
    have hs : settleM (runR h) = (m + 1, p.ops ++ [.rm (cntN m), .wr (cntN (m + 1)) []]) := by
      unfold settleM
      have e1 : cntOf (runR h) = some (m + 1) := cntOf_some (by omega) (by rw [hp.log]; simp) (fun k h3 h4 => only_none hp.only (by simpa using ⟨cnt_ne h4 (by omega) (by omega), cnt_ne h4 (by omega) (by omega)⟩))
      rw [e1]
      simp only
      rw [if_neg, hp.log, ht]
      · simp [read_log hp.fit.ok]
      · rw [Nat.add_sub_cancel, hp.cnt]; simp
    rw [hs]
    obtain ⟨a1, c1⟩ := ph2_along (by omega) hp
    exact ⟨rfl, a1.mono (fun _ h => h.elim (fun h => .inr (.inr (.inl ⟨m, p, T, c, rfl, h⟩))) (fun h => .inr (.inr (.inr h)))), c1⟩
  · have ht : getB (runR h) trialN = none := hp.only _ own_trial (by simpa using (cnt_trial n).symm)
    obtain ⟨b, hb⟩ : ∃ b, getB (runR h) (cntN n) = some b := by
      cases hg : getB (runR h) (cntN n) with
      | none => exact absurd hg hp.cnt
      | some b => exact ⟨b, rfl⟩
    have hs : settleM (runR h) = (n, if b = [] then [] else [.wr (cntN n) []]) := by
      unfold settleM
      have e1 : cntOf (runR h) = some n := cntOf_some (by omega) hp.cnt (fun m h3 h4 => only_none hp.only (by simpa using cnt_ne h4 (by omega) (by omega)))
      rw [e1]
      simp only
      rw [if_pos, hb, ht]
      · simp
      · by_cases h0 : n = 0
        · exact .inl h0
        · exact .inr (only_none hp.only (by simpa using cnt_ne (by omega) (by omega) (by omega)))
    rw [hs]
    refine ⟨rfl, ?_⟩
    simp only
    by_cases hbe : b = []
    · rw [if_pos hbe]
      subst hbe
      exact ⟨Along.refl (.inr (.inr (.inr hp))), ⟨hp.u, hp.own, hp.only.less (fun s hs h1 => absurd (by simpa using hs) (fun e => h1 (by rw [e]; simp))), .inl hb⟩, ht⟩
    · rw [if_neg hbe]
      obtain ⟨a1, c1⟩ := empty_along (by omega) hp
      exact ⟨a1.mono fun _ h => .inr (.inr (.inr h)), c1⟩
end
end Go.Proofs.YtmldpehkacemfaaGreatDoor
namespace Go.Proofs.YtmldpehkacemfaaGreatDoor
open Go.RowKit Go.Bd
def rmAll (l : List ByteArray) (S : Fs) : Fs := l.foldl delB S
def wrAll (l : List (ByteArray × Bs)) (S : Fs) : Fs := l.foldl (fun fs f => setB fs f.1 f.2) S
def applyP (p : Plan) (S : Fs) : Fs := wrAll p.wr (rmAll p.rm S)
theorem rmAll_uniq : ∀ (l : List ByteArray) {S : Fs}, UniqB S → UniqB (rmAll l S)
  | [], _, h => h
  | a :: l, _, h => rmAll_uniq l (h.del a)
theorem wrAll_uniq : ∀ (l : List (ByteArray × Bs)) {S : Fs}, UniqB S → UniqB (wrAll l S)
  | [], _, h => h
  | a :: l, _, h => wrAll_uniq l (h.set a.1 a.2)
theorem rmAll_other : ∀ (l : List ByteArray) (S : Fs) {s : ByteArray}, s ∉ l → getB (rmAll l S) s = getB S s
  | [], _, _, _ => rfl
  | a :: l, S, s, h => by
    have h1 : s ≠ a ∧ s ∉ l := ⟨fun e => h (by rw [e]; exact List.mem_cons_self ..), fun e => h (List.mem_cons_of_mem _ e)⟩
    show getB (rmAll l (delB S a)) s = _
    rw [rmAll_other l _ h1.2, getB_del_other S h1.1]
theorem rmAll_mem : ∀ (l : List ByteArray) (S : Fs) {s : ByteArray}, s ∈ l → getB (rmAll l S) s = none
  | a :: l, S, s, h => by
    show getB (rmAll l (delB S a)) s = _
    by_cases e : s ∈ l
    · exact rmAll_mem l _ e
    · obtain rfl : s = a := by
        rcases List.mem_cons.1 h with h1 | h1
        · exact h1
        · exact absurd h1 e
      rw [rmAll_other l _ e, getB_del_same]
theorem wrAll_other : ∀ (l : List (ByteArray × Bs)) (S : Fs) {s : ByteArray}, s ∉ l.map (·.1) → getB (wrAll l S) s = getB S s
  | [], _, _, _ => rfl
  | a :: l, S, s, h => by
    have h1 : s ≠ a.1 ∧ s ∉ l.map (·.1) := ⟨fun e => h (by rw [e]; exact List.mem_cons_self ..), fun e => h (List.mem_cons_of_mem _ e)⟩
    show getB (wrAll l (setB S a.1 a.2)) s = _
    rw [wrAll_other l _ h1.2, getB_set_other S _ h1.1]
theorem wrAll_mem : ∀ (l : List (ByteArray × Bs)) (S : Fs) {f : ByteArray × Bs}, (l.map (·.1)).Nodup → f ∈ l → getB (wrAll l S) f.1 = some f.2
  | a :: l, S, f, hd, h => by
    have hd' := List.nodup_cons.1 hd
    show getB (wrAll l (setB S a.1 a.2)) f.1 = _
    rcases List.mem_cons.1 h with rfl | h1
    · rw [wrAll_other l _ hd'.1, getB_set_same]
    · exact wrAll_mem l _ hd'.2 h1
theorem sum_getB : ∀ (N : List ByteArray) {S : Fs}, UniqB S → N.Nodup → (N.map fun s => ((getB S s).getD []).length).sum ≤ usedB S
  | [], _, _, _ => by simp
  | a :: N, S, hu, hd => by
    have hd' := List.nodup_cons.1 hd
    have ih := sum_getB N (hu.del a) hd'.2
    have h1 := used_del hu a
    have e : (N.map fun s => ((getB (delB S a) s).getD []).length) = N.map fun s => ((getB S s).getD []).length := by
      apply List.map_congr_left
      intro t ht
      rw [getB_del_other S (by rintro rfl; exact hd'.1 ht)]
    rw [e] at ih
    rw [List.map_cons, List.sum_cons]
    omega
theorem sum_one : ∀ (N : List ByteArray) (a : ByteArray) (k : Nat), N.Nodup → (N.map fun s => if s = a then k else 0).sum ≤ k
  | [], _, _, _ => by simp
  | b :: N, a, k, hd => by
    have hd' := List.nodup_cons.1 hd
    rw [List.map_cons, List.sum_cons]
    by_cases e : b = a
    · subst e
      have h0 : (N.map fun s => if s = b then k else 0).sum = 0 := by
        rw [List.sum_eq_zero_iff_forall_eq_nat]
        intro x hx
        obtain ⟨t, ht, rfl⟩ := List.mem_map.1 hx
        rw [if_neg (by rintro rfl; exact hd'.1 ht)]
      rw [h0, if_pos rfl]; omega
    · rw [if_neg e]
      have := sum_one N a k hd'.2
      omega
theorem sum_add3 : ∀ (N : List ByteArray) (f g h : ByteArray → Nat), (N.map fun s => f s + g s + h s).sum = (N.map f).sum + (N.map g).sum + (N.map h).sum
  | [], _, _, _ => by simp
  | a :: N, f, g, h => by
    simp only [List.map_cons, List.sum_cons]
    have := sum_add3 N f g h
    omega
structure Plan.May (p : Plan) (S : Fs) : Prop where
  ok : p.Ok
  rm : ∀ s ∈ p.rm, nameB s = true ∧ ownB s = true ∧ getB S s ≠ none
  wr : ∀ f ∈ p.wr, nameB f.1 = true ∧ ownB f.1 = true ∧ f.1 ∉ p.rm
  nd : (p.wr.map (·.1)).Nodup
structure Mine (S : Fs) : Prop where
  u : UniqB S
  own : ∀ s, getB S s ≠ none → ownB s = true ∧ nameB s = true
theorem Mine.apply {p : Plan} {S : Fs} (h : Mine S) (hp : p.May S) : Mine (applyP p S) := by
  refine ⟨wrAll_uniq _ (rmAll_uniq _ h.u), fun s hs => ?_⟩
  unfold applyP at hs
  by_cases hw : s ∈ p.wr.map (·.1)
  · obtain ⟨f, hf, rfl⟩ := List.mem_map.1 hw
    exact ⟨(hp.wr f hf).2.1, (hp.wr f hf).1⟩
  · rw [wrAll_other _ _ hw] at hs
    by_cases hr : s ∈ p.rm
    · exact ⟨(hp.rm s hr).2.1, (hp.rm s hr).1⟩
    · rw [rmAll_other _ _ hr] at hs
      exact h.own s hs
def changeO (p : Plan) (n : Nat) (fs : Fs) (z : Bs) : List DOp :=
  [.wr trialN z, .rm trialN] ++ ((if getB fs (cntN n) = none then [.wr (cntN n) []] else []) ++ (.wr (cntN (n + 1)) p.log :: (p.ops ++ [.rm (cntN n), .wr (cntN (n + 1)) []])))
section
variable {size n : Nat} {p : Plan} {S fs : Fs}
theorem Clean.len (h : Clean n S fs) : fs.length ≤ S.length + (if getB fs (cntN n) = none then 0 else 1) := by
  have hin : ∀ s ∈ fs.map (·.1), s ∈ (if getB fs (cntN n) = none then [] else [cntN n]) ++ S.map (·.1) := fun s hs => by
    obtain ⟨g, hg, rfl⟩ := List.mem_map.1 hs
    have hg' := getB_of_mem h.1.u (s := g.1) (b := g.2) hg
    by_cases ho : ownB g.1 = true
    · have h1 := h.1.own g.1 ho
      rw [hg'] at h1
      exact List.mem_append_right _ (List.mem_map.2 ⟨_, getB_mem h1.symm, rfl⟩)
    · rw [Bool.not_eq_true] at ho
      have hc : g.1 = cntN n := by
        apply Classical.byContradiction
        intro hne
        have h2 := h.1.only g.1 ho
        by_cases ht : g.1 = trialN
        · have h3 := h.2
          rw [← ht, hg'] at h3; cases h3
        · rw [h2 (by simpa using ⟨ht, hne⟩)] at hg'; cases hg'
      refine List.mem_append_left _ ?_
      rw [hc] at hg'
      rw [if_neg (by rw [hg']; simp), hc]
      simp
  have h1 := nodup_le (names_nodup h.1.u) hin
  simp only [List.length_append, List.length_map] at h1
  split at h1 <;> simp_all <;> omega
theorem Clean.used (h : Clean n S fs) (hS : UniqB S) : usedB fs ≤ usedB S := by
  have h1 := used_le (fs := fs) (c := fun s => ((getB S s).getD []).length) (fun f hf => by
    have hg' := getB_of_mem h.1.u (s := f.1) (b := f.2) hf
    by_cases ho : ownB f.1 = true
    · have h1 := h.1.own f.1 ho
      rw [hg'] at h1
      simp only [← h1]
      simp
    · rw [Bool.not_eq_true] at ho
      by_cases hc : f.1 = cntN n
      · rcases h.1.cnt with h2 | ⟨h2, h3⟩
        · rw [hc, h2] at hg'; injection hg' with hg'; rw [← hg']; simp
        · rw [hc, h2, h3] at hg'; cases hg'
      · have h2 := h.1.only f.1 ho
        by_cases ht : f.1 = trialN
        · have h3 := h.2
          rw [← ht, hg'] at h3; cases h3
        · rw [h2 (by simpa using ⟨ht, hc⟩)] at hg'; cases hg')
  exact Nat.le_trans h1 (sum_getB _ hS (names_nodup h.1.u))
end
end Go.Proofs.YtmldpehkacemfaaGreatDoor
namespace Go.Proofs.YtmldpehkacemfaaGreatDoor
open Go.RowKit Go.Bd
theorem write_ok {fs : Fs} {size : Nat} {s : ByteArray} {q : Bs} (hs : nameB s = true) (hl : getB fs s ≠ none ∨ fs.length < 256) (hr : usedB fs + q.length ≤ size) : writeE fs size s q = 0 := by
  unfold writeE
  rw [if_pos hs, if_neg, if_neg]
  · omega
  · rintro ⟨h1, h2⟩
    rcases hl with h3 | h3
    · exact h3 (by simpa using h1)
    · omega
theorem run_wr_yes (size : Nat) (h : List Raw) {s : ByteArray} {q : Bs} (hw : writeE (runR h) size s q = 0) : runR (h ++ DOp.raws size (runR h) (.wr s q)) = setB (runR h) s q := by
  have h1 := run_rawsW h size s q
  rw [if_pos hw] at h1
  exact h1
section
variable {size n : Nat} {p : Plan} {S : Fs}
structure Plan.Room (p : Plan) (size : Nat) (S : Fs) : Prop where
  l1 : S.length + 2 ≤ 256
  l2 : (applyP p S).length + 2 ≤ 256
  sz : 2 * (usedB S + usedB (applyP p S) + p.log.length) ≤ size
def capN (p : Plan) (n : Nat) (S : Fs) (s : ByteArray) : Nat := ((getB S s).getD []).length + ((getB (applyP p S) s).getD []).length + (if s = cntN (n + 1) then p.log.length else 0)
def namesN (p : Plan) (n : Nat) (S : Fs) : List ByteArray := cntN n :: cntN (n + 1) :: (applyP p S).map (·.1)
theorem fit_of (hn : n < 98) (hS : Mine S) (hp : p.May S) (hr : p.Room size S) : p.Fit size n (applyP p S) (namesN p n S) (capN p n S) := by
  have hS' := hS.apply hp
  have hno : ∀ m, cntN m ∉ (applyP p S).map (·.1) := fun m hm => by
    obtain ⟨g, hg, e⟩ := List.mem_map.1 hm
    have h1 := (hS'.own g.1 (by rw [getB_of_mem hS'.u (s := g.1) (b := g.2) hg]; simp)).1
    rw [e, own_cnt] at h1; cases h1
  have hcc : cntN n ≠ cntN (n + 1) := cnt_ne (by omega) (by omega) (by omega)
  refine ⟨hp.ok, fun s hs => ⟨(hp.rm s hs).1, (hp.rm s hs).2.1, ?_⟩, fun f hf => ?_, hp.nd, ?_, ?_, ⟨by simp [namesN], by simp [namesN]⟩, fun N hN hin => ?_⟩
  · have hw : s ∉ p.wr.map (·.1) := fun hm => by
      obtain ⟨f, hf, e⟩ := List.mem_map.1 hm
      exact (hp.wr f hf).2.2 (by rw [e]; exact hs)
    unfold applyP
    rw [wrAll_other _ _ hw, rmAll_mem _ _ hs]
  · have hg : getB (applyP p S) f.1 = some f.2 := by unfold applyP; exact wrAll_mem _ _ hp.nd hf
    refine ⟨(hp.wr f hf).1, (hp.wr f hf).2.1, hg, ?_, ?_⟩
    · unfold namesN
      exact List.mem_cons_of_mem _ (List.mem_cons_of_mem _ (List.mem_map.2 ⟨_, getB_mem hg, rfl⟩))
    · unfold capN
      rw [hg]
      simp only [Option.getD_some]
      omega
  · have := hr.l2
    unfold namesN
    simp only [List.length_cons, List.length_map]; omega
  · unfold namesN
    refine List.nodup_cons.2 ⟨fun h => ?_, List.nodup_cons.2 ⟨hno _, names_nodup hS'.u⟩⟩
    rcases List.mem_cons.1 h with h1 | h1
    · exact hcc h1
    · exact hno _ h1
  · have h1 := sum_getB N hS.u hN
    have h2 := sum_getB N hS'.u hN
    have h3 := sum_one N (cntN (n + 1)) p.log.length hN
    have h4 : (N.map (capN p n S)).sum = _ := sum_add3 N (fun s => ((getB S s).getD []).length) (fun s => ((getB (applyP p S) s).getD []).length) (fun s => if s = cntN (n + 1) then p.log.length else 0)
    have h5 := hr.sz
    rw [h4]
    omega
theorem change_rec {h : List Raw} {z : Bs} (hn : n < 97) (hS : Mine S) (hp : p.May S) (hr : p.Room size S) (hc : Clean n S (runR h)) :
    Along (fun fs => Rec size n S fs ∨ Rec size (n + 1) (applyP p S) fs) h (runO size (changeO p n (runR h) z) h) ∧ Clean (n + 1) (applyP p S) (runR (runO size (changeO p n (runR h) z) h)) := by
  have hfit := fit_of (size := size) (n := n) (by omega) hS hp hr
  have hcc : cntN n ≠ cntN (n + 1) := cnt_ne (by omega) (by omega) (by omega)
  have hll := hp.ok.len
  have a1 := along_wr (P := fun fs => Ph0 n S fs) (size := size) (h := h) trialN z hc.1 (fun _ m => hc.1.setT _)
  have e1 := a1.at_end (by simp)
  obtain ⟨a2, c2⟩ := rmT_along (size := size) e1
  have hcn : getB (runR (runO size [.rm trialN] (h ++ DOp.raws size (runR h) (.wr trialN z)))) (cntN n) = getB (runR h) (cntN n) := by
    have h1 := (run_rm size (h ++ DOp.raws size (runR h) (.wr trialN z)) name_trial).2 (cntN n) (cnt_trial n)
    have h2 : getB (runR (h ++ DOp.raws size (runR h) (.wr trialN z))) (cntN n) = getB (runR h) (cntN n) := by
      have h3 := run_rawsW h size trialN z
      show getB (runR (h ++ rawsW (runR h) size trialN z)) _ = _
      rw [h3]
      split
      · exact getB_set_other _ _ (cnt_trial n)
      · rfl
    exact h1.trans h2
  have a12 := a1.trans a2 (runO_more size [.rm trialN] (h ++ DOp.raws size (runR h) (.wr trialN z)))
  have hlen2 := runO_len size [.rm trialN] (h ++ DOp.raws size (runR h) (.wr trialN z))
  have hlen1 : h.length ≤ (h ++ DOp.raws size (runR h) (.wr trialN z)).length := by simp
  have hpre2 : ∃ r, runO size [.rm trialN] (h ++ DOp.raws size (runR h) (.wr trialN z)) = h ++ r := by
    obtain ⟨r, hr'⟩ := runO_more size [.rm trialN] (h ++ DOp.raws size (runR h) (.wr trialN z))
    exact ⟨DOp.raws size (runR h) (.wr trialN z) ++ r, by rw [hr', List.append_assoc]⟩
  have hro : runO size (changeO p n (runR h) z) h = runO size ((if getB (runR h) (cntN n) = none then [.wr (cntN n) []] else []) ++ (.wr (cntN (n + 1)) p.log :: (p.ops ++ [.rm (cntN n), .wr (cntN (n + 1)) []]))) (runO size [.rm trialN] (h ++ DOp.raws size (runR h) (.wr trialN z))) := by
    unfold changeO
    rw [runO_app]
    rfl
  rw [hro]
  generalize runO size [.rm trialN] (h ++ DOp.raws size (runR h) (.wr trialN z)) = h2 at a12 c2 hcn hlen2 hpre2
  rw [← hcn]
  obtain ⟨h3, hh3, a3, c3, hc3, hpre3⟩ : ∃ h3, runO size (if getB (runR h2) (cntN n) = none then [.wr (cntN n) []] else []) h2 = h3 ∧ Along (fun fs => Ph0 n S fs) h2 h3 ∧ Clean n S (runR h3) ∧ getB (runR h3) (cntN n) = some [] ∧ ∃ r, h3 = h2 ++ r := by
    by_cases hg : getB (runR h2) (cntN n) = none
    · have h0 : n = 0 := by
        rcases c2.1.cnt with h5 | h5
        · rw [hg] at h5; cases h5
        · exact h5.1
      have hl := c2.len
      have hu := c2.used hS.u
      have h1 := hr.l1
      have h5 := hr.sz
      rw [if_pos hg] at hl
      have hw : writeE (runR h2) size (cntN n) [] = 0 := write_ok (name_cnt n (by omega)) (.inr (by omega)) (by simp; omega)
      have hset : Clean n S (setB (runR h2) (cntN n) []) := by
        refine ⟨⟨c2.1.u.set _ _, c2.1.own.set (own_cnt n) _, c2.1.only.set (.inr (by simp)) _, .inl (getB_set_same _ _ _)⟩, ?_⟩
        rw [getB_set_other _ _ (cnt_trial n).symm]; exact c2.2
      rw [if_pos hg]
      refine ⟨_, rfl, along_wr (cntN n) [] c2.1 (fun _ m => by rw [List.take_nil]; exact hset.1), ?_, ?_, _, rfl⟩
      · show Clean n S (runR (h2 ++ DOp.raws size (runR h2) (.wr (cntN n) [])))
        rw [run_wr_yes size h2 hw]; exact hset
      · show getB (runR (h2 ++ DOp.raws size (runR h2) (.wr (cntN n) []))) _ = _
        rw [run_wr_yes size h2 hw]; exact getB_set_same _ _ _
    · rw [if_neg hg]
      refine ⟨h2, rfl, Along.refl c2.1, c2, ?_, [], by simp⟩
      rcases c2.1.cnt with h5 | ⟨h5, h6⟩
      · exact h5
      · subst h5; exact absurd h6 hg
  rw [runO_app, hh3]
  have hl3 : h2.length ≤ h3.length := by obtain ⟨r, rfl⟩ := hpre3; simp
  have hl := c3.len
  have hu := c3.used hS.u
  have hr1 := hr.l1
  have hr5 := hr.sz
  rw [if_neg (by rw [hc3]; simp)] at hl
  have hw : writeE (runR h3) size (cntN (n + 1)) p.log = 0 := write_ok (name_cnt (n + 1) (by omega)) (.inr (by omega)) (by omega)
  have hnoc : ∀ s, ownB s = false → s ≠ cntN n → getB (runR h3) s = none := fun s h1 h2 => by
    by_cases e : s = trialN
    · subst e; exact c3.2
    · exact c3.1.only s h1 (by simpa using ⟨e, h2⟩)
  have hset1 : ∀ m, m < p.log.length → Ph1 n S (setB (runR h3) (cntN (n + 1)) (p.log.take m)) := fun m hm => by
    refine ⟨c3.1.u.set _ _, c3.1.own.set (own_cnt _) _, ?_, ?_, _, getB_set_same _ _ _, read_part hll hm⟩
    · intro s h1 h2
      simp at h2
      rw [getB_set_other _ _ h2.2]
      exact hnoc s h1 h2.1
    · rw [getB_set_other _ _ hcc]; exact hc3
  have hset2 : Ph2 size n p (applyP p S) (setB (runR h3) (cntN (n + 1)) p.log) (namesN p n S) (capN p n S) := by
    refine ⟨c3.1.u.set _ _, fun s h1 h2 h4 => ?_, ?_, ?_, getB_set_same _ _ _, hfit, fun s hs => ?_, fun s b hb => ?_⟩
    · have hne : s ≠ cntN (n + 1) := by rintro rfl; rw [own_cnt] at h1; cases h1
      have hw' : s ∉ p.wr.map (·.1) := fun hm => by
        obtain ⟨f, hf, e⟩ := List.mem_map.1 hm
        exact h4 f hf e
      rw [getB_set_other _ _ hne, c3.1.own s h1]
      unfold applyP
      rw [wrAll_other _ _ hw', rmAll_other _ _ h2]
    · intro s h1 h2
      simp at h2
      rw [getB_set_other _ _ h2.2]
      exact hnoc s h1 h2.1
    · rw [getB_set_other _ _ hcc]; exact hc3
    · by_cases e1 : s = cntN (n + 1)
      · exact .inl (by rw [e1]; simp [namesN])
      · rw [getB_set_other _ _ e1] at hs
        by_cases e2 : s = cntN n
        · exact .inl (by rw [e2]; simp [namesN])
        · have ho : ownB s = true := by
            cases ho : ownB s with
            | true => rfl
            | false => exact absurd (hnoc s ho e2) hs
          rw [c3.1.own s ho] at hs
          by_cases hrm : s ∈ p.rm
          · exact .inr hrm
          · left
            unfold namesN
            refine List.mem_cons_of_mem _ (List.mem_cons_of_mem _ ?_)
            have hg : getB (applyP p S) s ≠ none := by
              unfold applyP
              by_cases hwm : s ∈ p.wr.map (·.1)
              · obtain ⟨f, hf, rfl⟩ := List.mem_map.1 hwm
                rw [wrAll_mem _ _ hp.nd hf]; simp
              · rw [wrAll_other _ _ hwm, rmAll_other _ _ hrm]; exact hs
            cases hgg : getB (applyP p S) s with
            | none => exact absurd hgg hg
            | some b => exact List.mem_map.2 ⟨_, getB_mem hgg, rfl⟩
    · unfold capN
      by_cases e1 : s = cntN (n + 1)
      · subst e1
        rw [getB_set_same] at hb
        injection hb with hb
        rw [if_pos rfl, ← hb]; omega
      · rw [getB_set_other _ _ e1] at hb
        by_cases e2 : s = cntN n
        · subst e2
          rw [hc3] at hb
          injection hb with hb
          rw [← hb]; simp
        · have ho : ownB s = true := by
            cases ho : ownB s with
            | true => rfl
            | false => rw [hnoc s ho e2] at hb; cases hb
          have h1 := c3.1.own s ho
          rw [hb] at h1
          rw [← h1]
          simp only [Option.getD_some]
          omega
  have a4 := along_wr (P := fun fs => Rec size n S fs ∨ Rec size (n + 1) (applyP p S) fs) (size := size) (h := h3) (cntN (n + 1)) p.log (.inl (.inl c3.1)) (fun _ m => by
    by_cases hm : m < p.log.length
    · exact .inl (.inr (.inl (hset1 m hm)))
    · rw [List.take_of_length_le (by omega)]
      exact .inr (.inr (.inr (.inl ⟨n, p, _, _, rfl, hset2⟩))))
  have hp4 : Ph2 size n p (applyP p S) (runR (h3 ++ DOp.raws size (runR h3) (.wr (cntN (n + 1)) p.log))) (namesN p n S) (capN p n S) := by
    rw [run_wr_yes size h3 hw]; exact hset2
  obtain ⟨a5, c5⟩ := ph2_along (by omega) hp4
  refine ⟨?_, c5⟩
  have b1 : Along (fun fs => Rec size n S fs ∨ Rec size (n + 1) (applyP p S) fs) h h3 := (a12.trans a3 hpre3).mono fun _ h => .inl (.inl h)
  have b2 := b1.trans a4 ⟨_, rfl⟩
  exact b2.trans (a5.mono fun _ h => h.elim (fun h => .inr (.inr (.inr (.inl ⟨n, p, _, _, rfl, h⟩)))) (fun h => .inr (.inr (.inr (.inr h))))) (runO_more size (p.ops ++ [.rm (cntN n), .wr (cntN (n + 1)) []]) (h3 ++ DOp.raws size (runR h3) (.wr (cntN (n + 1)) p.log)))
end
end Go.Proofs.YtmldpehkacemfaaGreatDoor
namespace Go.Proofs.YtmldpehkacemfaaGreatDoor
open Go.RowKit Go.Bd
structure Life (size : Nat) (St : List Fs) (En : List Nat) (h : List Raw) : Prop where
  len : En.length = St.length
  pos : 0 < St.length
  last : ∃ S, St[St.length - 1]? = some S ∧ Mine S ∧ Clean (St.length - 1) S (runR h)
  cut : ∀ k, k ≤ h.length → ∃ j S, St[j]? = some S ∧ Rec size j S (runR (h.take k)) ∧ ∀ i e, En[i]? = some e → e ≤ k → i ≤ j
theorem mine_nil : Mine [] := ⟨List.Pairwise.nil, fun s h => by simp [getB] at h⟩
theorem clean_nil : Clean 0 [] (runR []) := ⟨⟨List.Pairwise.nil, fun _ _ => rfl, fun _ _ _ => rfl, .inr ⟨rfl, rfl⟩⟩, rfl⟩
theorem Life.first (size : Nat) : Life size [[]] [0] [] := by
  refine ⟨rfl, by simp, ⟨[], rfl, mine_nil, clean_nil⟩, fun k hk => ⟨0, [], rfl, ?_, fun i e hi _ => ?_⟩⟩
  · rw [List.take_nil]; exact .inl clean_nil.1
  · have := (List.getElem?_eq_some_iff.1 hi).1
    simp at this; omega
theorem change_more {size n : Nat} {p : Plan} {S : Fs} {h : List Raw} {z : Bs} (hn : n < 97) (hS : Mine S) (hp : p.May S) (hr : p.Room size S) (hc : Clean n S (runR h)) : h.length < (runO size (changeO p n (runR h) z) h).length := by
  have hm := runO_len size (changeO p n (runR h) z) h
  apply Classical.byContradiction
  intro hlt
  obtain ⟨r, hre⟩ := runO_more size (changeO p n (runR h) z) h
  have hr0 : r = [] := by
    rw [hre] at hlt
    rw [List.length_append] at hlt
    exact List.length_eq_zero_iff.1 (by omega)
  have h1 := (change_rec (z := z) hn hS hp hr hc).2
  rw [hre, hr0, List.append_nil] at h1
  have h2 : getB (runR h) (cntN (n + 1)) = some [] := by
    rcases h1.1.cnt with h3 | ⟨h3, _⟩
    · exact h3
    · omega
  have h4 := hc.1.only (cntN (n + 1)) (own_cnt _) (by simpa using ⟨cnt_trial (n + 1), cnt_ne (by omega) (by omega) (by omega)⟩)
  rw [h2] at h4; cases h4
theorem Life.step {size : Nat} {St : List Fs} {En : List Nat} {h : List Raw} {p : Plan} {S : Fs} {z : Bs} (hl : Life size St En h) (hn : St.length ≤ 97) (hS : St[St.length - 1]? = some S) (hp : p.May S) (hr : p.Room size S) :
    Life size (St ++ [applyP p S]) (En ++ [(runO size (changeO p (St.length - 1) (runR h) z) h).length]) (runO size (changeO p (St.length - 1) (runR h) z) h) := by
  obtain ⟨S0, h0, hm, hc⟩ := hl.last
  rw [hS] at h0
  injection h0 with h0
  subst h0
  have hpos := hl.pos
  have hlt := change_more (z := z) (by omega) hm hp hr hc
  obtain ⟨hA, hC⟩ := change_rec (z := z) (by omega) hm hp hr hc
  have e1 : St.length - 1 + 1 = St.length := by omega
  rw [e1] at hA hC
  generalize hh : runO size (changeO p (St.length - 1) (runR h) z) h = h' at hlt hA hC
  obtain ⟨r, hre⟩ : ∃ r, h' = h ++ r := by rw [← hh]; exact runO_more _ _ _
  refine ⟨by simp [hl.len], by simp, ⟨applyP p S, ?_, hm.apply hp, ?_⟩, fun k hk => ?_⟩
  · rw [List.length_append, List.length_singleton, Nat.add_sub_cancel, List.getElem?_append_right (Nat.le_refl _)]
    simp
  · rw [List.length_append, List.length_singleton, Nat.add_sub_cancel]; exact hC
  · by_cases hk1 : k ≤ h.length
    · obtain ⟨j, Sj, h1, h2, h3⟩ := hl.cut k hk1
      have hj := (List.getElem?_eq_some_iff.1 h1).1
      refine ⟨j, Sj, by rw [List.getElem?_append_left hj]; exact h1, ?_, fun i e hi he => ?_⟩
      · rw [hre, List.take_append_of_le_length hk1]; exact h2
      · by_cases hi2 : i < En.length
        · rw [List.getElem?_append_left hi2] at hi
          exact h3 i e hi he
        · rw [List.getElem?_append_right (by omega)] at hi
          have := (List.getElem?_eq_some_iff.1 hi).1
          have hie : i - En.length = 0 := by simpa using this
          rw [hie] at hi
          simp at hi
          omega
    · by_cases hk2 : k = h'.length
      · subst hk2
        refine ⟨St.length, applyP p S, by simp, ?_, fun i e hi he => ?_⟩
        · rw [List.take_length]; exact .inl hC.1
        · have := (List.getElem?_eq_some_iff.1 hi).1
          have hll := hl.len
          simp at this; omega
      · have h1 := hA k (by omega) hk
        have hEn : ∀ i e, (En ++ [h'.length])[i]? = some e → e ≤ k → i ≤ St.length - 1 := fun i e hi he => by
          have hll := hl.len
          by_cases hi2 : i < En.length
          · omega
          · rw [List.getElem?_append_right (by omega)] at hi
            have := (List.getElem?_eq_some_iff.1 hi).1
            have hie : i - En.length = 0 := by simpa using this
            rw [hie] at hi
            simp at hi
            omega
        rcases h1 with h1 | h1
        · exact ⟨St.length - 1, S, by rw [List.getElem?_append_left (by omega)]; exact hS, h1, hEn⟩
        · exact ⟨St.length, applyP p S, by simp, h1, fun i e hi he => by have := hEn i e hi he; omega⟩
end Go.Proofs.YtmldpehkacemfaaGreatDoor
namespace Go.Proofs.YtmldpehkacemfaaGreatDoor
open Go.RowKit Go.Bd
theorem delB_len {S : Fs} (hu : UniqB S) {s : ByteArray} (h : getB S s ≠ none) : (delB S s).length + 1 = S.length := by
  induction S with
  | nil => exact absurd rfl h
  | cons a S ih =>
    have h1 := List.pairwise_cons.1 hu
    by_cases ha : a.1 = s
    · have e1 : delB (a :: S) s = S := by
        have e2 : delB S s = S := by
          unfold delB
          rw [List.filter_eq_self]
          intro x hx
          have := h1.1 x hx
          simp [← ha, Ne.symm this]
        unfold delB at e2 ⊢
        rw [List.filter_cons_of_neg (by simp [ha]), e2]
      rw [e1]; rfl
    · have e1 : delB (a :: S) s = a :: delB S s := by
        unfold delB
        rw [List.filter_cons_of_pos (by simp [ha])]
      have e2 : getB (a :: S) s = getB S s := by
        unfold getB
        rw [List.find?_cons_of_neg (by simp [ha])]
      rw [e2] at h
      rw [e1, List.length_cons, List.length_cons, ih h1.2 h]
theorem delB_len0 {S : Fs} {s : ByteArray} (h : getB S s = none) : delB S s = S := by
  unfold delB
  rw [List.filter_eq_self]
  intro x hx
  simp only [Bool.not_eq_true', decide_eq_false_iff_not]
  rintro rfl
  unfold getB at h
  rw [Option.map_eq_none_iff, List.find?_eq_none] at h
  exact h x hx (by simp)
theorem setB_len {S : Fs} (hu : UniqB S) (s : ByteArray) (b : Bs) : (setB S s b).length = S.length + (if getB S s = none then 1 else 0) := by
  unfold setB
  rw [List.length_append, List.length_singleton]
  by_cases h : getB S s = none
  · rw [if_pos h, delB_len0 h]
  · rw [if_neg h, ← delB_len hu h]
theorem rmAll_len : ∀ (l : List ByteArray) {S : Fs}, UniqB S → l.Nodup → (∀ s ∈ l, getB S s ≠ none) → (rmAll l S).length + l.length = S.length
  | [], _, _, _, _ => rfl
  | a :: l, S, hu, hd, h => by
    have hd' := List.nodup_cons.1 hd
    have h1 := delB_len hu (h a (List.mem_cons_self ..))
    have h2 := rmAll_len l (hu.del a) hd'.2 (fun s hs => by
      rw [getB_del_other S (by rintro rfl; exact hd'.1 hs)]
      exact h s (List.mem_cons_of_mem _ hs))
    show (rmAll l (delB S a)).length + (l.length + 1) = _
    omega
def newN (S : Fs) (l : List (ByteArray × Bs)) : Nat := (l.map fun f => if getB S f.1 = none then 1 else 0).sum
theorem newN_congr {S S' : Fs} {l : List (ByteArray × Bs)} (h : ∀ f ∈ l, (getB S f.1 = none) ↔ (getB S' f.1 = none)) : newN S l = newN S' l := by
  unfold newN
  congr 1
  apply List.map_congr_left
  intro f hf
  simp only [h f hf]
theorem wrAll_len : ∀ (l : List (ByteArray × Bs)) {S : Fs}, UniqB S → (l.map (·.1)).Nodup → (wrAll l S).length = S.length + newN S l
  | [], _, _, _ => rfl
  | f :: l, S, hu, hd => by
    have hd' := List.nodup_cons.1 hd
    have h1 := setB_len hu f.1 f.2
    have h2 := wrAll_len l (hu.set f.1 f.2) hd'.2
    have h3 : newN (setB S f.1 f.2) l = newN S l := newN_congr (fun g hg => by
      rw [getB_set_other S _ (fun e => hd'.1 (List.mem_map.2 ⟨g, hg, e⟩))])
    show (wrAll l (setB S f.1 f.2)).length = _
    rw [h2, h1, h3]
    unfold newN
    rw [List.map_cons, List.sum_cons]
    omega
def textsN (l : List (ByteArray × Bs)) : Nat := (l.map (·.2.length)).sum
theorem rmAll_used : ∀ (l : List ByteArray) {S : Fs}, UniqB S → usedB (rmAll l S) ≤ usedB S
  | [], _, _ => Nat.le_refl _
  | a :: l, S, hu => by
    have h1 := used_del hu a
    have h2 := rmAll_used l (hu.del a)
    show usedB (rmAll l (delB S a)) ≤ _
    omega
theorem wrAll_used : ∀ (l : List (ByteArray × Bs)) {S : Fs}, UniqB S → usedB (wrAll l S) ≤ usedB S + textsN l
  | [], _, _ => Nat.le_refl _
  | f :: l, S, hu => by
    have h1 := used_set hu f.1 f.2
    have h2 := wrAll_used l (hu.set f.1 f.2)
    show usedB (wrAll l (setB S f.1 f.2)) ≤ _
    unfold textsN at *
    rw [List.map_cons, List.sum_cons]
    omega
theorem apply_used {p : Plan} {S : Fs} (hu : UniqB S) : usedB (applyP p S) ≤ usedB S + textsN p.wr := by
  have h1 := rmAll_used p.rm hu
  have h2 := wrAll_used p.wr (rmAll_uniq p.rm hu)
  unfold applyP
  omega
theorem apply_len {p : Plan} {S : Fs} (hS : Mine S) (hp : p.May S) (hd : p.rm.Nodup) : (applyP p S).length + p.rm.length = S.length + newN S p.wr := by
  have h1 := rmAll_len p.rm hS.u hd (fun s hs => (hp.rm s hs).2.2)
  have h2 := wrAll_len p.wr (rmAll_uniq p.rm hS.u) hp.nd
  have h3 : newN (rmAll p.rm S) p.wr = newN S p.wr := newN_congr (fun f hf => by rw [rmAll_other _ _ (hp.wr f hf).2.2])
  unfold applyP
  omega
theorem rm_le {p : Plan} {S : Fs} (hp : p.May S) (hd : p.rm.Nodup) : p.rm.length ≤ S.length := by
  have := nodup_le (m := S.map (·.1)) hd (fun s hs => by
    cases hg : getB S s with
    | none => exact absurd hg (hp.rm s hs).2.2
    | some b => exact List.mem_map.2 ⟨_, getB_mem hg, rfl⟩)
  simpa using this
theorem wr_le {p : Plan} {S : Fs} (hp : p.May S) : p.wr.length ≤ (applyP p S).length := by
  have := nodup_le (m := (applyP p S).map (·.1)) hp.nd (fun s hs => by
    obtain ⟨f, hf, rfl⟩ := List.mem_map.1 hs
    have hg : getB (applyP p S) f.1 = some f.2 := by unfold applyP; exact wrAll_mem _ _ hp.nd hf
    exact List.mem_map.2 ⟨_, getB_mem hg, rfl⟩)
  simpa using this
theorem texts8_len : ∀ l : List ByteArray, (l.flatMap fun s => text8B s.data.toList).length = 8 * l.length + (l.map (·.size)).sum
  | [] => rfl
  | s :: l => by
    have := texts8_len l
    rw [List.flatMap_cons, List.length_append, this, List.length_cons, List.map_cons, List.sum_cons]
    unfold text8B
    rw [List.length_append, num8_len]
    simp
    omega
theorem files8_len : ∀ l : List (ByteArray × Bs), (l.flatMap fun f => text8B f.1.data.toList ++ text8B f.2).length = 16 * l.length + (l.map (·.1.size)).sum + textsN l
  | [] => rfl
  | f :: l => by
    have := files8_len l
    unfold textsN at *
    rw [List.flatMap_cons, List.length_append, this, List.length_cons, List.map_cons, List.sum_cons, List.map_cons, List.sum_cons]
    unfold text8B
    rw [List.length_append, List.length_append, List.length_append, num8_len, num8_len]
    simp
    omega
theorem log_size (p : Plan) : p.log.length = 24 + 8 * p.rm.length + (p.rm.map (·.size)).sum + 16 * p.wr.length + (p.wr.map (·.1.size)).sum + textsN p.wr := by
  rw [log_len]
  unfold Plan.tail
  rw [List.length_append, List.length_append, List.length_append, num8_len, num8_len, texts8_len, files8_len]
  omega
def Plan.weigh (p : Plan) : Nat := p.wr.length + (p.wr.map (·.1.size)).sum + textsN p.wr + (p.rm.length + (p.rm.map (·.size)).sum)
theorem room_of {p : Plan} {S : Fs} (hS : Mine S) (hp : p.May S) (hd : p.rm.Nodup) (h1 : S.length + 2 ≤ 256) (h2 : S.length + newN S p.wr + 2 ≤ 256 + p.rm.length) (hw : usedB S + p.weigh ≤ 40000) : p.Room 400000 S := by
  have e1 := apply_len hS hp hd
  have e2 := rm_le hp hd
  have e3 := wr_le hp
  have e4 := log_size p
  have e5 := apply_used (p := p) hS.u
  have e6 : textsN p.wr ≤ p.weigh := by unfold Plan.weigh; omega
  refine ⟨h1, by omega, ?_⟩
  unfold Plan.weigh at hw
  omega
end Go.Proofs.YtmldpehkacemfaaGreatDoor
namespace Go.Proofs.YtmldpehkacemfaaGreatDoor
open Go.RowKit Go.Bd
def ownL (x : List UInt8) : Bool := !([106, 111, 117, 114, 110, 97, 108] : Bs).isPrefixOf x
def filesM (fs : Fs) : List (Bs × Bs) := ((namesB fs).filter ownL).map fun x => (x, (getB fs ⟨⟨x⟩⟩).getD [])
theorem leB_trans (a b c : List UInt8) (h1 : leB a b = true) (h2 : leB b c = true) : leB a c = true := by
  simp only [leB, decide_eq_true_eq] at *; exact List.le_trans h1 h2
theorem leB_total (a b : List UInt8) : (leB a b || leB b a) = true := by
  simp only [leB, Bool.or_eq_true, decide_eq_true_eq]; exact List.le_total a b
theorem sorted_eq {l m : List (List UInt8)} (hl : l.Pairwise fun a b => leB a b = true) (hm : m.Pairwise fun a b => leB a b = true) (hp : l.Perm m) : l = m := by
  refine List.Perm.eq_of_pairwise (le := fun a b => leB a b = true) (fun a b _ _ h1 h2 => ?_) hl hm hp
  simp only [leB, decide_eq_true_eq] at h1 h2
  exact List.le_antisymm h1 h2
theorem mem_names {fs : Fs} (hu : UniqB fs) (x : List UInt8) : x ∈ fs.map (fun p => p.1.data.toList) ↔ getB fs ⟨⟨x⟩⟩ ≠ none := by
  constructor
  · intro h
    obtain ⟨p, hp, rfl⟩ := List.mem_map.1 h
    have := getB_of_mem hu (s := p.1) (b := p.2) hp
    show getB fs p.1 ≠ none
    rw [this]; simp
  · intro h
    cases hg : getB fs ⟨⟨x⟩⟩ with
    | none => exact absurd hg h
    | some b => exact List.mem_map.2 ⟨_, getB_mem hg, rfl⟩
theorem names_nd {fs : Fs} (hu : UniqB fs) : (fs.map (fun p => p.1.data.toList)).Nodup := by
  rw [List.nodup_iff_pairwise_ne, List.pairwise_map]
  refine hu.imp (fun {a b} hne e => hne ?_)
  have h1 : (⟨⟨a.1.data.toList⟩⟩ : ByteArray) = ⟨⟨b.1.data.toList⟩⟩ := by rw [e]
  exact h1
theorem filesM_eq {S fs : Fs} (hu : UniqB fs) (hS : Mine S) (ho : Owns S fs) : filesM fs = filesM S := by
  have hperm : ((fs.map (fun p => p.1.data.toList)).filter ownL).Perm ((S.map (fun p => p.1.data.toList)).filter ownL) := by
    rw [List.perm_ext_iff_of_nodup ((names_nd hu).filter _) ((names_nd hS.u).filter _)]
    intro x
    rw [List.mem_filter, List.mem_filter, mem_names hu, mem_names hS.u]
    constructor
    · rintro ⟨h1, h2⟩
      exact ⟨by rw [← ho ⟨⟨x⟩⟩ h2]; exact h1, h2⟩
    · rintro ⟨h1, h2⟩
      exact ⟨by rw [ho ⟨⟨x⟩⟩ h2]; exact h1, h2⟩
  have hnames : (namesB fs).filter ownL = (namesB S).filter ownL := by
    unfold namesB
    refine sorted_eq (List.Pairwise.filter _ (List.pairwise_mergeSort leB_trans leB_total _)) (List.Pairwise.filter _ (List.pairwise_mergeSort leB_trans leB_total _)) ?_
    exact ((List.mergeSort_perm _ leB).filter _).trans (hperm.trans ((List.mergeSort_perm _ leB).filter _).symm)
  unfold filesM
  rw [hnames]
  apply List.map_congr_left
  intro x hx
  have h2 := (List.mem_filter.1 hx).2
  have h3 : ownB ⟨⟨x⟩⟩ = true := h2
  rw [ho _ h3]
end Go.Proofs.YtmldpehkacemfaaGreatDoor
namespace Go.Proofs.YtmldpehkacemfaaGreatDoor
open Go.RowKit Go.Bd
theorem own_any (s : ByteArray) (w : World) : Calls Tryz.prog 38 #[.string s] w fun e w' => e = .returned (.bool (ownB s)) ∧ w = w' := by
  have hcp := Tryz.strings_HasPrefix s ⟨#[106, 111, 117, 114, 110, 97, 108]⟩ w
  have e1 : Lib.hasPrefix s.data.toList (⟨#[106, 111, 117, 114, 110, 97, 108]⟩ : ByteArray).data.toList = !ownB s := by
    unfold ownB Lib.hasPrefix
    simp
  rw [e1] at hcp
  go_enter Tryz.func38, Tryz.ntmps38
  go_wp2_with (go_at_call 60; refine hcp.mono ?_; rintro e w2 ⟨rfl, rfl⟩)
  go_ret
  exact ⟨by simp, rfl⟩
set_option maxRecDepth 100000 in
theorem small1 : ∀ n < 10, (⟨#[48, 49, 50, 51, 52, 53, 54, 55, 56, 57, 97, 98, 99, 100, 101, 102, 103, 104, 105, 106, 107, 108, 109, 110, 111, 112, 113, 114, 115, 116, 117, 118, 119, 120, 121, 122]⟩ : ByteArray).extract n (n + 1) = ⟨(decN n).toArray⟩ := by decide +kernel
set_option maxRecDepth 100000 in
theorem small2 : ∀ n < 99, 10 ≤ n → (⟨#[48, 48, 48, 49, 48, 50, 48, 51, 48, 52, 48, 53, 48, 54, 48, 55, 48, 56, 48, 57, 49, 48, 49, 49, 49, 50, 49, 51, 49, 52, 49, 53, 49, 54, 49, 55, 49, 56, 49, 57, 50, 48, 50, 49, 50, 50, 50, 51, 50, 52, 50, 53, 50, 54, 50, 55, 50, 56, 50, 57, 51, 48, 51, 49, 51, 50, 51, 51, 51, 52, 51, 53, 51, 54, 51, 55, 51, 56, 51, 57, 52, 48, 52, 49, 52, 50, 52, 51, 52, 52, 52, 53, 52, 54, 52, 55, 52, 56, 52, 57, 53, 48, 53, 49, 53, 50, 53, 51, 53, 52, 53, 53, 53, 54, 53, 55, 53, 56, 53, 57, 54, 48, 54, 49, 54, 50, 54, 51, 54, 52, 54, 53, 54, 54, 54, 55, 54, 56, 54, 57, 55, 48, 55, 49, 55, 50, 55, 51, 55, 52, 55, 53, 55, 54, 55, 55, 55, 56, 55, 57, 56, 48, 56, 49, 56, 50, 56, 51, 56, 52, 56, 53, 56, 54, 56, 55, 56, 56, 56, 57, 57, 48, 57, 49, 57, 50, 57, 51, 57, 52, 57, 53, 57, 54, 57, 55, 57, 56, 57, 57]⟩ : ByteArray).extract (n * 2) (n * 2 + 2) = ⟨(decN n).toArray⟩ := by decide +kernel
set_option maxRecDepth 100000 in
set_option maxHeartbeats 2000000 in
theorem small_any (n : Nat) (hn : n < 99) (w : World) : Calls Tryz.prog 83 #[.int .i64 (n : Int)] w fun e w' => e = .returned (.string ⟨(decN n).toArray⟩) ∧ w = w' := by
  go_enter Tryz.func83, Tryz.ntmps83
  go_wp2
  · go_ret
    refine ⟨congrArg (fun x => Ending.returned (Value.string x)) (small1 n (by omega)), rfl⟩
  · go_ret
    refine ⟨congrArg (fun x => Ending.returned (Value.string x)) (small2 n hn (by omega)), rfl⟩
theorem format0_any (n : Nat) (hn : n < 99) (w : World) : Calls Tryz.prog 72 #[.int .u64 (n : Int), .int .i64 10] w fun e w' => e = .returned (.string ⟨(decN n).toArray⟩) ∧ w = w' := by
  go_enter Tryz.func72, Tryz.ntmps72
  go_wp2_with (go_at_call 83; refine (small_any n hn _).mono ?_; rintro e w2 ⟨rfl, rfl⟩)
  go_ret
  exact ⟨rfl, rfl⟩
theorem format_any (n : Nat) (hn : n < 99) (w : World) : Calls Tryz.prog 55 #[.int .u64 (n : Int), .int .i64 10] w fun e w' => e = .returned (.string ⟨(decN n).toArray⟩) ∧ w = w' := by
  go_enter Tryz.func55, Tryz.ntmps55
  go_wp2_with (go_at_call 72; refine (format0_any n hn _).mono ?_; rintro e w2 ⟨rfl, rfl⟩)
  go_ret
  exact ⟨rfl, rfl⟩
theorem counter_any (n : Nat) (hn : n < 99) (w : World) : Calls Tryz.prog 32 #[.int .u64 (n : Int)] w fun e w' => e = .returned (.string (cntN n)) ∧ w = w' := by
  have hd : (decN n).length ≤ 2 := by unfold decN; split <;> simp
  go_enter Tryz.func32, Tryz.ntmps32
  go_wp2_with (go_at_call 55; refine (format_any n hn _).mono ?_; rintro e w2 ⟨rfl, rfl⟩)
  go_ret
  exact ⟨congrArg (fun x => Ending.returned (Value.string x)) (by unfold cntN; apply ByteArray.ext; simp), rfl⟩
end Go.Proofs.YtmldpehkacemfaaGreatDoor
namespace Go.Proofs.YtmldpehkacemfaaGreatDoor
open Go.RowKit Go.Bd
section
variable {w : World} {F Ro : Nat → Prop} {db size : Nat} {hist : List Raw}
theorem there_j (h : Dk w F Ro db size hist) (hh : hist.length ≤ 900000) : Calls Tryz.prog 15 #[.pointer (some ⟨db, 0, none⟩)] w fun e w' => e = .returned (.bool true) ∧ Below w.heap.size w w' := by
  have hr := read_dk h ⟨#[106, 111, 117, 114, 110, 97, 108]⟩ (by decide) hh
  have h2 : ((readB (runR hist) ⟨#[106, 111, 117, 114, 110, 97, 108]⟩).2 : Int) = 0 ∨ ((readB (runR hist) ⟨#[106, 111, 117, 114, 110, 97, 108]⟩).2 : Int) = 5 := by
    unfold readB
    have hnt := name_trial
    unfold trialN at hnt
    rw [if_pos hnt]
    split <;> simp
  generalize (readB (runR hist) ⟨#[106, 111, 117, 114, 110, 97, 108]⟩).2 = n2 at hr h2
  clear h
  go_enter Tryz.func15, Tryz.ntmps15
  go_wp2_with fail
  refine hr.mono ?_
  rintro e w2 ⟨v', rfl, ho, hb⟩
  obtain ⟨A2, c2, rfl, _⟩ := own_slice ho
  have HB := Lib.hid hb
  clear ho hb
  rcases h2 with h2 | h2 <;> rw [h2]
  all_goals
    go_wp2
    go_ret
    exact ⟨rfl, HB.out⟩
end
end Go.Proofs.YtmldpehkacemfaaGreatDoor
namespace Go.Proofs.YtmldpehkacemfaaGreatDoor
open Go.RowKit Go.Bd
def DkTo (w w' : World) (F Ro : Nat → Prop) (db size : Nat) (hist' : List Raw) : Prop := ∃ F' Ro', Dk w' F' Ro' db size hist' ∧ (∀ k, F' k → F k ∨ w.heap.size ≤ k) ∧ (∀ k, Ro' k → Ro k ∨ w.heap.size ≤ k) ∧ Chg w w' F
section
variable {w w1 w2 : World} {F Ro F1 Ro1 : Nat → Prop} {db size : Nat} {hist hist2 : List Raw}
theorem DkTo.refl (h : Dk w F Ro db size hist) : DkTo w w F Ro db size hist := ⟨F, Ro, h, fun _ h => .inl h, fun _ h => .inl h, Chg.refl _ _⟩
theorem DkTo.later (h : DkTo w w1 F Ro db size hist) (hb : Below w1.heap.size w1 w2) : DkTo w w2 F Ro db size hist := by
  obtain ⟨F', Ro', h1, h2, h3, h4⟩ := h
  exact ⟨F', Ro', h1.below hb, h2, h3, h4.trans (Chg.below hb (fun _ => False)) (fun _ _ h => h.elim)⟩
theorem DkTo.first (h : DkTo w1 w2 F Ro db size hist) (hb : Below w.heap.size w w1) : DkTo w w2 F Ro db size hist := by
  obtain ⟨F', Ro', h1, h2, h3, h4⟩ := h
  have := hb.size
  exact ⟨F', Ro', h1, fun k hk => (h2 k hk).imp id (fun h => by omega), fun k hk => (h3 k hk).imp id (fun h => by omega), (Chg.below hb F).trans h4 (fun _ _ h => h)⟩
theorem DkTo.step (h : DkTo w1 w2 F1 Ro1 db size hist2) (hF : ∀ k, F1 k → F k ∨ w.heap.size ≤ k) (hR : ∀ k, Ro1 k → Ro k ∨ w.heap.size ≤ k) (hc : Chg w w1 F) : DkTo w w2 F Ro db size hist2 := by
  obtain ⟨F', Ro', h1, h2, h3, h4⟩ := h
  have := hc.size
  refine ⟨F', Ro', h1, fun k hk => ?_, fun k hk => ?_, hc.trans h4 (fun k hk e => (hF k e).elim id (fun h => by omega))⟩
  · rcases h2 k hk with h | h
    · exact hF k h
    · exact .inr (by omega)
  · rcases h3 k hk with h | h
    · exact hR k h
    · exact .inr (by omega)
theorem DkTo.chg (h : DkTo w w1 F Ro db size hist) : Chg w w1 F := by
  obtain ⟨F', Ro', h1, h2, h3, h4⟩ := h
  exact h4
theorem rm_dk (h : Dk w F Ro db size hist) (s : ByteArray) (hs : s.size ≤ 140737488355328) (hh : hist.length + 2 ≤ 900000) :
    Calls Tryz.prog 42 #[.pointer (some ⟨db, 0, none⟩), .string s] w fun e w' => (∃ v, e = .returned v) ∧ DkTo w w' F Ro db size (hist ++ DOp.raws size (runR hist) (.rm s)) := by
  refine (remove_dk h s hs hh).mono ?_
  rintro e w' ⟨rfl, F', Ro', h1, h2, h3, h4⟩
  exact ⟨⟨_, rfl⟩, F', Ro', h1, h2, h3, h4⟩
theorem wr_dk (h : Dk w F Ro db size hist) (s : ByteArray) (hs : s.size ≤ 140737488355328) (q : Bs) (A : Option Addr) (c : Nat)
    (hA : InB w F A q) (hq : q.length ≤ 100000000) (hc : q.length ≤ c) (hh : hist.length + (q.length + 511) / 512 + 2 ≤ 900000) (hsz : size ≤ 8388608) :
    Calls Tryz.prog 31 #[.pointer (some ⟨db, 0, none⟩), .string s, .slice A q.length c] w fun e w' => e = .returned (.int .i64 (writeE (runR hist) size s q : Int)) ∧ DkTo w w' F Ro db size (hist ++ DOp.raws size (runR hist) (.wr s q)) := by
  refine (write_dk h s hs q A c hA hq hc hh hsz).mono ?_
  rintro e w' ⟨rfl, F', Ro', h1, h2, h3, h4⟩
  exact ⟨rfl, F', Ro', h1, h2, h3, h4⟩
theorem wr0_dk (h : Dk w F Ro db size hist) (s : ByteArray) (hs : s.size ≤ 140737488355328) (hh : hist.length + 2 ≤ 900000) (hsz : size ≤ 8388608) :
    Calls Tryz.prog 31 #[.pointer (some ⟨db, 0, none⟩), .string s, .slice none 0 0] w fun e w' => e = .returned (.int .i64 (writeE (runR hist) size s [] : Int)) ∧ DkTo w w' F Ro db size (hist ++ DOp.raws size (runR hist) (.wr s [])) :=
  wr_dk h s hs [] none 0 (.inl rfl) (by simp) (by simp) (by simpa using hh) hsz
end
def DOp.cost : DOp → Nat
  | .rm _ => 1
  | .wr _ q => q.length / 512 + 2
def costO (l : List DOp) : Nat := (l.map DOp.cost).sum
theorem raws_cost (size : Nat) (fs : Fs) (o : DOp) : (o.raws size fs).length ≤ o.cost := by
  cases o with
  | rm s => exact rawsD_length fs s
  | wr s q =>
    have := rawsW_length fs size s q
    show (rawsW fs size s q).length ≤ q.length / 512 + 2
    omega
theorem runO_cost (size : Nat) : ∀ (l : List DOp) (h : List Raw), (runO size l h).length ≤ h.length + costO l
  | [], h => by simp [runO, costO]
  | o :: l, h => by
    have h1 := runO_cost size l (h ++ o.raws size (runR h))
    have h2 := raws_cost size (runR h) o
    rw [List.length_append] at h1
    unfold costO at *
    rw [runO, List.map_cons, List.sum_cons]
    omega
theorem costO_app (a b : List DOp) : costO (a ++ b) = costO a + costO b := by unfold costO; rw [List.map_append, List.sum_append]
theorem costO_take (l : List DOp) (k : Nat) : costO (l.take k) ≤ costO l := by
  conv => rhs; rw [← List.take_append_drop k l, costO_app]
  omega
theorem costO_le : ∀ {l : List DOp} {o : DOp}, o ∈ l → o.cost ≤ costO l
  | a :: l, o, h => by
    unfold costO
    rw [List.map_cons, List.sum_cons]
    rcases List.mem_cons.1 h with rfl | h1
    · omega
    · have := costO_le h1
      unfold costO at this
      omega
theorem runO_snoc (size : Nat) (l : List DOp) (o : DOp) (h : List Raw) : runO size (l ++ [o]) h = runO size l h ++ o.raws size (runR (runO size l h)) := by rw [runO_app]; rfl
theorem own_at {w : World} {B n : Nat} {t : TypeId} {v : Value} {xs : List Value} (h : w.ownsRow B t 1 v n xs) : ∃ A c, v = .slice A n c ∧ n ≤ c ∧ ∀ (j : Nat) u, xs[j]? = some u → ∃ b, A = some ⟨b, 0, none⟩ ∧ B ≤ b ∧ b < w.heap.size ∧ w.cell? ⟨b, j, none⟩ = some u := by
  obtain ⟨A, c, rfl, hc⟩ := own_slice2 h
  refine ⟨A, c, rfl, hc, fun j u hu => ?_⟩
  have hj := (List.getElem?_eq_some_iff.1 hu).1
  rcases h.2 with ⟨h1, h2⟩ | ⟨g, cap, cur, h1, h2, h3, _⟩
  · have := h.1
    omega
  · injection h1 with h1
    subst h1
    refine ⟨g, rfl, h2, (Array.getElem?_eq_some_iff.1 h3).1, ?_⟩
    have := h.cells (g := g) rfl j u hu
    rw [Addr.add_lit] at this
    simpa using this
def TextsS (w : World) (S : Nat → Prop) (v : Value) (l : List ByteArray) : Prop := ∃ A c, v = .slice A l.length c ∧ l.length ≤ c ∧ ∀ (j : Nat) s, l[j]? = some s → ∃ b off, A = some ⟨b, off, none⟩ ∧ S b ∧ w.cell? ⟨b, off + j, none⟩ = some (.string s)
def FilesS (w : World) (S : Nat → Prop) (v : Value) (l : List (ByteArray × Bs)) : Prop := ∃ A c, v = .slice A l.length c ∧ l.length ≤ c ∧ ∀ (j : Nat) f, l[j]? = some f → ∃ b off, A = some ⟨b, off, none⟩ ∧ S b ∧ w.cell? ⟨b, off + j * 2, none⟩ = some (.string f.1) ∧ w.cell? ⟨b, off + j * 2 + 1, none⟩ = some (.string ⟨f.2.toArray⟩)
section
variable {w w' : World} {S S' G : Nat → Prop} {v : Value}
theorem TextsS.chg {l : List ByteArray} (h : TextsS w S v l) (hc : Chg w w' G) (hS : ∀ k, S k → S' k ∧ ¬ G k) : TextsS w' S' v l := by
  obtain ⟨A, c, e, hl, h1⟩ := h
  refine ⟨A, c, e, hl, fun j s hs => ?_⟩
  obtain ⟨b, off, h2, h3, h4⟩ := h1 j s hs
  exact ⟨b, off, h2, (hS b h3).1, hc.cell (p := ⟨b, off + j, none⟩) (hS b h3).2 h4⟩
theorem FilesS.chg {l : List (ByteArray × Bs)} (h : FilesS w S v l) (hc : Chg w w' G) (hS : ∀ k, S k → S' k ∧ ¬ G k) : FilesS w' S' v l := by
  obtain ⟨A, c, e, hl, h1⟩ := h
  refine ⟨A, c, e, hl, fun j s hs => ?_⟩
  obtain ⟨b, off, h2, h3, h4, h5⟩ := h1 j s hs
  exact ⟨b, off, h2, (hS b h3).1, hc.cell (p := ⟨b, off + j * 2, none⟩) (hS b h3).2 h4, hc.cell (p := ⟨b, off + j * 2 + 1, none⟩) (hS b h3).2 h5⟩
theorem TextsS.own {l : List ByteArray} {B n : Nat} (h : w.ownsRow B 9 1 v n (l.map .string)) (hn : n = l.length) : TextsS w (fun b => B ≤ b ∧ b < w.heap.size) v l := by
  subst hn
  obtain ⟨A, c, rfl, hc⟩ := own_slice2 h
  refine ⟨A, c, rfl, hc, fun j s hs => ?_⟩
  have hj := (List.getElem?_eq_some_iff.1 hs).1
  rcases h.2 with ⟨h1, h2⟩ | ⟨g, cap, cur, h1, h2, h3, _⟩
  · omega
  · injection h1 with h1
    subst h1
    refine ⟨g, 0, rfl, ⟨h2, (Array.getElem?_eq_some_iff.1 h3).1⟩, ?_⟩
    have := h.cells (g := g) rfl j (.string s) (by rw [List.getElem?_map, hs]; rfl)
    rw [Addr.add_lit] at this
    simpa using this
theorem rowFl_at : ∀ (l : List (ByteArray × Bs)) (j : Nat) (f : ByteArray × Bs), l[j]? = some f → (rowFl l)[j * 2]? = some (.string f.1) ∧ (rowFl l)[j * 2 + 1]? = some (.string ⟨f.2.toArray⟩)
  | [], j, f, h => by simp at h
  | a :: l, 0, f, h => by
    simp at h; subst h
    exact ⟨rfl, rfl⟩
  | a :: l, j + 1, f, h => by
    have := rowFl_at l j f (by simpa using h)
    have e : rowFl (a :: l) = .string a.1 :: .string ⟨a.2.toArray⟩ :: rowFl l := rfl
    have e1 : (j + 1) * 2 = j * 2 + 1 + 1 := by omega
    rw [e, e1]
    exact this
theorem FilesS.own {l : List (ByteArray × Bs)} {B n : Nat} (h : w.ownsRow B 50 2 v n (rowFl l)) (hn : n = l.length) : FilesS w (fun b => B ≤ b ∧ b < w.heap.size) v l := by
  subst hn
  obtain ⟨A, c, rfl, hc⟩ := own_slice2 h
  refine ⟨A, c, rfl, hc, fun j f hf => ?_⟩
  have hj := (List.getElem?_eq_some_iff.1 hf).1
  rcases h.2 with ⟨h1, h2⟩ | ⟨g, cap, cur, h1, h2, h3, _⟩
  · omega
  · injection h1 with h1
    subst h1
    have e1 := h.cells (g := g) rfl (j * 2) _ (rowFl_at l j f hf).1
    have e2 := h.cells (g := g) rfl (j * 2 + 1) _ (rowFl_at l j f hf).2
    rw [Addr.add_lit] at e1 e2
    exact ⟨g, 0, rfl, ⟨h2, (Array.getElem?_eq_some_iff.1 h3).1⟩, by simpa using e1, by simpa [Nat.add_assoc] using e2⟩
end
set_option maxRecDepth 100000 in
set_option maxHeartbeats 2000000 in
theorem do_any {w : World} {F Ro : Nat → Prop} {db size : Nat} {hist : List Raw} (h : Dk w F Ro db size hist) (p : Plan) (rv wv : Value) (hR : TextsS w (fun k => ¬ F k) rv p.rm) (hW : FilesS w (fun k => ¬ F k) wv p.wr)
    (hr : p.rm.length ≤ 10000000 ∧ ∀ s ∈ p.rm, s.size ≤ 100000000) (hw : p.wr.length ≤ 10000000 ∧ ∀ f ∈ p.wr, f.1.size ≤ 100000000 ∧ f.2.length ≤ 100000000) (hh : hist.length + costO p.ops + 2 ≤ 900000) (hsz : size ≤ 8388608) :
    Calls Tryz.prog 34 #[.agg #[rv, wv], .pointer (some ⟨db, 0, none⟩)] w fun e w' => e = .returned (.tuple #[]) ∧ DkTo w w' F Ro db size (runO size p.ops hist) := by
  obtain ⟨Ar, cr, rfl, hcr, hr1⟩ := hR
  obtain ⟨Aw, cw, rfl, hcw, hw1⟩ := hW
  have hlF := h.ltF
  obtain ⟨nr, hnr⟩ : ∃ nr, p.rm.length = nr := ⟨_, rfl⟩
  obtain ⟨nw, hnw⟩ : ∃ nw, p.wr.length = nw := ⟨_, rfl⟩
  rw [hnr] at hcr hr
  rw [hnw] at hcw hw
  rw [hnr, hnw]
  obtain ⟨W0, hW0⟩ : ∃ W0, w.alloc (.cells #[.slice Ar nr cr, .slice Aw nw cw] 64) = W0 := ⟨_, rfl⟩
  have hN0 := Holds.new w 64 #[.slice Ar nr cr, .slice Aw nw cw]
  have hbw : Below w.heap.size w W0 := by rw [← hW0]; exact (Below.refl _ _).alloc (Nat.le_refl _) _
  rw [hW0] at hN0
  obtain ⟨bx, hbx⟩ : ∃ bx, w.heap.size = bx := ⟨_, rfl⟩
  have hbF : ¬ F bx := fun e => by have := hlF _ e; omega
  rw [hbx] at hN0
  have x0 := hN0.cell 0
  have x1 := hN0.cell 1
  simp at x0 x1
  have hD0 := h.below hbw
  have hcw0 := Chg.below hbw (fun _ => False)
  have HH := Lib.hid (And.intro hD0 (And.intro hbw (And.intro hlF (And.intro hcw0 hh))))
  have HRR := Lib.hid hr1
  have HWW := Lib.hid hw1
  have HN := Lib.hid (And.intro hnr hnw)
  have HBX := Lib.hid hbx
  have HS := Lib.hid (And.intro hr.2 hw.2)
  have hr0 := hr.1
  have hw0 := hw.1
  have HX0 := Lib.hid hN0
  clear h hr1 hw1 hnr hnw hD0 hbw hlF hr hw hN0 hcw0 hh
  go_enter Tryz.func34, Tryz.ntmps34
  go_wp2_with fail
  (try rw [hW0])
  (try rw [hbx])
  clear hW0 hbx
  go_loopg [11] nr (fun q iv wr => ∃ k : Nat, k + q = nr ∧ iv = .int .i64 (k : Int) ∧ Hid (DkTo W0 wr F Ro db size (runO size ((p.rm.take k).map .rm) hist)))
  case atStart => exact ⟨0, by omega, rfl, Lib.hid (by simpa [runO] using DkTo.refl HH.out.1)⟩
  case round =>
    obtain ⟨k, hk, rfl, HR⟩ := hrel
    by_cases hlt : k < nr
    · obtain ⟨s, hs⟩ : ∃ s, p.rm[k]? = some s := ⟨_, List.getElem?_eq_getElem (by rw [HN.out.1]; exact hlt)⟩
      obtain ⟨b, off, rfl, hb, hc⟩ := HRR.out k s hs
      have q0 := HR.out.chg.cell (p := ⟨b, off + k, none⟩) hb (HH.out.2.2.2.1.cell (p := ⟨b, off + k, none⟩) (fun h => h) hc)
      have hcost : (runO size ((p.rm.take k).map .rm) hist).length + 2 ≤ 900000 := by
        have h1 := runO_cost size ((p.rm.take k).map .rm) hist
        have h2 := costO_take p.ops k
        have h3 : costO ((p.rm.take k).map .rm) ≤ costO p.ops := by
          have e : p.ops = (p.rm.take k).map .rm ++ ((p.rm.drop k).map .rm ++ p.wr.map fun f => .wr f.1 f.2) := by
            unfold Plan.ops
            rw [← List.append_assoc, ← List.map_append, List.take_append_drop]
          rw [e, costO_app]; omega
        have := HH.out.2.2.2.2
        omega
      obtain ⟨F1, Ro1, hD1, hF1, hR1, hc1⟩ := HR.out
      have hrm := rm_dk hD1 s (by have := HS.out.1 s (List.mem_of_getElem? hs); omega) hcost
      have hnx : Hid (runO size ((p.rm.take (k + 1)).map .rm) hist = runO size ((p.rm.take k).map .rm) hist ++ DOp.raws size (runR (runO size ((p.rm.take k).map .rm) hist)) (.rm s)) := Lib.hid (by
        rw [List.take_add_one, hs, List.map_append]
        exact runO_snoc _ _ _ _)
      have HM := Lib.hid hrm
      have HC := Lib.hid (And.intro hF1 (And.intro hR1 hc1))
      clear hrm hc hD1 hF1 hR1 hc1 hs hcost
      go_wp2_with fail
      refine HM.out.mono ?_
      rintro e w2 ⟨⟨v2, rfl⟩, h2⟩
      have h3 := Lib.hid (hnx.out ▸ h2.step HC.out.1 HC.out.2.1 HC.out.2.2)
      clear h2
      go_wp2_with fail
      go_roundg (gk - 1)
      case measure => omega
      case rel => exact ⟨k + 1, by omega, by go_num, h3⟩
    · obtain rfl : k = nr := by omega
      have hk0 : runO size ((p.rm.take k).map .rm) hist = runO size (p.rm.map .rm) hist := by rw [List.take_of_length_le (by rw [HN.out.1]; exact Nat.le_refl _)]
      have HQ := HR.out
      rw [hk0] at HQ
      obtain ⟨h1, hh1⟩ : ∃ h1, runO size (p.rm.map .rm) hist = h1 := ⟨_, rfl⟩
      rw [hh1] at HQ
      have hc1 : h1.length + costO (p.wr.map fun f => .wr f.1 f.2) + 2 ≤ 900000 := by
        have h1 := runO_cost size (p.rm.map .rm) hist
        have h2 : costO p.ops = costO (p.rm.map .rm) + costO (p.wr.map fun f => .wr f.1 f.2) := by unfold Plan.ops; rw [costO_app]
        have := HH.out.2.2.2.2
        rw [← hh1]
        omega
      have HE : Hid (runO size p.ops hist = runO size (p.wr.map fun f => .wr f.1 f.2) h1) := Lib.hid (by unfold Plan.ops; rw [runO_app, hh1])
      have z1 := HQ.chg.cell (p := ⟨bx, 1, none⟩) hbF x1
      have HQ1 := Lib.hid HQ
      have HC1 := Lib.hid hc1
      clear HQ hk0 hh1 hc1 HR
      obtain ⟨wO, hwO⟩ : ∃ x, x = wr := ⟨_, rfl⟩
      subst hwO
      go_wp2_with fail
      go_loopg [22] nw (fun q iv wr => ∃ k : Nat, k + q = nw ∧ iv = .int .i64 (k : Int) ∧ Hid (DkTo W0 wr F Ro db size (runO size ((p.wr.take k).map fun f => .wr f.1 f.2) h1)))
      case atStart => exact ⟨0, by omega, rfl, Lib.hid (by simpa [runO] using HQ1.out)⟩
      case round =>
        obtain ⟨k, hk, rfl, HR⟩ := hrel
        by_cases hlt : k < nw
        · obtain ⟨f, hf⟩ : ∃ f, p.wr[k]? = some f := ⟨_, List.getElem?_eq_getElem (by rw [HN.out.2]; exact hlt)⟩
          obtain ⟨b, off, rfl, hb, hc0, hc1⟩ := HWW.out k f hf
          have q0 := HR.out.chg.cell (p := ⟨b, off + k * 2, none⟩) hb (HH.out.2.2.2.1.cell (p := ⟨b, off + k * 2, none⟩) (fun h => h) hc0)
          have q1 := HR.out.chg.cell (p := ⟨b, off + k * 2 + 1, none⟩) hb (HH.out.2.2.2.1.cell (p := ⟨b, off + k * 2 + 1, none⟩) (fun h => h) hc1)
          have hcost : (runO size ((p.wr.take k).map fun f => .wr f.1 f.2) h1).length + (f.2.length + 511) / 512 + 2 ≤ 900000 := by
            have h2 := runO_cost size ((p.wr.take k).map fun f => .wr f.1 f.2) h1
            have h3 : costO ((p.wr.take k).map fun f => .wr f.1 f.2) + costO ((p.wr.drop k).map fun f => .wr f.1 f.2) = costO (p.wr.map fun f => .wr f.1 f.2) := by
              rw [← costO_app, ← List.map_append, List.take_append_drop]
            have h4 : (DOp.wr f.1 f.2).cost ≤ costO ((p.wr.drop k).map fun f => .wr f.1 f.2) := costO_le (List.mem_map.2 ⟨f, List.mem_of_getElem? (i := 0) (by rw [List.getElem?_drop]; exact hf), rfl⟩)
            have := HC1.out
            have h5 : (DOp.wr f.1 f.2).cost = f.2.length / 512 + 2 := rfl
            omega
          have hsz2 := HS.out.2 f (List.mem_of_getElem? hf)
          obtain ⟨F1, Ro1, hD1, hF1, hR1, hc1'⟩ := HR.out
          have hnx : Hid (runO size ((p.wr.take (k + 1)).map fun f => .wr f.1 f.2) h1 = runO size ((p.wr.take k).map fun f => .wr f.1 f.2) h1 ++ DOp.raws size (runR (runO size ((p.wr.take k).map fun f => .wr f.1 f.2) h1)) (.wr f.1 f.2)) := Lib.hid (by
            rw [List.take_add_one, hf, List.map_append]
            exact runO_snoc _ _ _ _)
          obtain ⟨gx, hgx⟩ : ∃ gx : ByteArray, ⟨f.2.toArray⟩ = gx := ⟨_, rfl⟩
          have hgs : gx.size = f.2.length := by rw [← hgx, size_mk]
          have hgl : gx.data.toList = f.2 := by rw [← hgx]
          rw [hgx] at q1
          obtain ⟨W1, hW1⟩ : ∃ W1, (wr.alloc (.cells #[.string f.1, .string gx] 50)) = W1 := ⟨_, rfl⟩
          have hb1 : Below wr.heap.size wr W1 := by rw [← hW1]; exact (Below.refl _ _).alloc (Nat.le_refl _) _
          have hN1 := Holds.new wr 50 #[.string f.1, .string gx]
          rw [hW1] at hN1
          obtain ⟨fx, hfx⟩ : ∃ fx, wr.heap.size = fx := ⟨_, rfl⟩
          rw [hfx] at hN1
          have f0 := hN1.cell 0
          have f1 := hN1.cell 1
          simp at f0 f1
          obtain ⟨cap, W2, hcv, hcap, hb2, hby⟩ := run_bytes_make (P := Tryz.prog) W1 (src := 9) (dst := 69) (t := 5) gx Tryz.underlying9 Tryz.underlying69 Tryz.underlying5
          have hb12 : Below wr.heap.size wr W2 := hb1.trans (hb2.mono hb1.size)
          have hD2 := hD1.below hb12
          have hlF1 := hD1.ltF
          have hIn : InB W2 F1 (some ⟨W1.heap.size, 0, none⟩) f.2 := .inr ⟨W1.heap.size, 0, rfl, fun e => by have := hlF1 _ e; have := hb1.size; omega, fun j u hu => by
            unfold u8L at hu
            rw [List.getElem?_map] at hu
            obtain ⟨x, hx, rfl⟩ := Option.map_eq_some_iff.1 hu
            have hj := (List.getElem?_eq_some_iff.1 hx).1
            rw [Nat.zero_add, hby.cell (by omega), hgl, List.getD_eq_getElem?_getD, hx]
            rfl⟩
          have hwr := wr_dk hD2 f.1 (by omega) f.2 _ cap hIn (by omega) (by omega) hcost hsz
          rw [← hgs] at hwr
          have HM := Lib.hid hwr
          have HC := Lib.hid (And.intro hF1 (And.intro hR1 (And.intro hc1' hb12)))
          clear hwr hc0 hc1 hD1 hD2 hF1 hR1 hc1' hf hcost hIn hby hb12 hb2 hb1 hN1 hlF1 hgx hgs hgl
          go_wp2_with fail
          (try rw [hW1])
          (try rw [hfx])
          clear hW1 hfx
          go_wp2_with fail
          refine HM.out.mono ?_
          rintro e w2 ⟨rfl, h2⟩
          have h3 := Lib.hid (hnx.out ▸ (h2.first HC.out.2.2.2).step HC.out.1 HC.out.2.1 HC.out.2.2.1)
          clear h2
          go_wp2_with fail
          go_roundg (gk - 1)
          case measure => omega
          case rel => exact ⟨k + 1, by omega, by go_num, h3⟩
        · obtain rfl : k = nw := by omega
          have hfin := HR.out
          rw [List.take_of_length_le (by rw [HN.out.2]; exact Nat.le_refl _), ← HE.out] at hfin
          have HF := Lib.hid (hfin.first HH.out.2.1)
          clear hfin
          go_wp2_with fail
          go_end0
          exact ⟨rfl, HF.out⟩
end Go.Proofs.YtmldpehkacemfaaGreatDoor
namespace Go.Proofs.YtmldpehkacemfaaGreatDoor
open Go.RowKit Go.Bd
def cntL (n : Nat) : List UInt8 := [106, 111, 117, 114, 110, 97, 108, 45] ++ decN n
theorem cntL_name (n : Nat) : (⟨⟨cntL n⟩⟩ : ByteArray) = cntN n := by unfold cntL cntN; simp
theorem cntL_inj {m n : Nat} (hm : m < 99) (hn : n < 99) (h : cntL m = cntL n) : m = n := cnt_inj hm hn (by rw [← cntL_name, ← cntL_name, h])
def Best (l : List (List UInt8)) : Option Nat → Prop
  | none => ∀ n < 99, cntL n ∉ l
  | some n => n < 99 ∧ cntL n ∈ l ∧ ∀ m, n < m → m < 99 → cntL m ∉ l
def NameK (x : List UInt8) : Prop := ownL x = true ∨ x = trialN.data.toList ∨ ∃ n < 99, x = cntL n
theorem Best.skip {l : List (List UInt8)} {a : Option Nat} {x : List UInt8} (h : Best l a) (hx : ∀ n < 99, cntL n ≠ x) : Best (l ++ [x]) a := by
  cases a with
  | none => exact fun n hn hm => (List.mem_append.1 hm).elim (h n hn) (fun h1 => hx n hn (List.mem_singleton.1 h1))
  | some n => exact ⟨h.1, List.mem_append_left _ h.2.1, fun m h1 h2 hm => (List.mem_append.1 hm).elim (h.2.2 m h1 h2) (fun h3 => hx m h2 (List.mem_singleton.1 h3))⟩
theorem Best.first {l : List (List UInt8)} {m : Nat} (h : Best l none) (hm : m < 99) : Best (l ++ [cntL m]) (some m) :=
  ⟨hm, List.mem_append_right _ (List.mem_singleton.2 rfl), fun k h1 h2 hk => (List.mem_append.1 hk).elim (h k h2) (fun h3 => by have := cntL_inj h2 hm (List.mem_singleton.1 h3); omega)⟩
theorem Best.more {l : List (List UInt8)} {n m : Nat} (h : Best l (some n)) (hm : m < 99) (hnm : n < m) : Best (l ++ [cntL m]) (some m) :=
  ⟨hm, List.mem_append_right _ (List.mem_singleton.2 rfl), fun k h1 h2 hk => (List.mem_append.1 hk).elim (h.2.2 k (by omega) h2) (fun h3 => by have := cntL_inj h2 hm (List.mem_singleton.1 h3); omega)⟩
theorem Best.less {l : List (List UInt8)} {n m : Nat} (h : Best l (some n)) (hm : m < 99) (hnm : ¬ n < m) : Best (l ++ [cntL m]) (some n) :=
  ⟨h.1, List.mem_append_left _ h.2.1, fun k h1 h2 hk => (List.mem_append.1 hk).elim (h.2.2 k h1 h2) (fun h3 => by have := cntL_inj h2 hm (List.mem_singleton.1 h3); omega)⟩
theorem cnt_mem {fs : Fs} (hu : UniqB fs) (n : Nat) : cntL n ∈ namesB fs ↔ getB fs (cntN n) ≠ none := by
  rw [← cntL_name, ← mem_names hu]
  unfold namesB
  exact (List.mergeSort_perm _ leB).mem_iff
theorem best_cntOf {fs : Fs} (hu : UniqB fs) {a : Option Nat} (h : Best (namesB fs) a) : cntOf fs = a := by
  cases a with
  | none => exact cntOf_none (fun m hm => Classical.byContradiction fun hc => h m hm ((cnt_mem hu m).2 hc))
  | some n => exact cntOf_some h.1 ((cnt_mem hu n).1 h.2.1) (fun m h1 h2 => Classical.byContradiction fun hc => h.2.2 m h1 h2 ((cnt_mem hu m).2 hc))
theorem name_kinds {fs : Fs} (hu : UniqB fs) {l : List ByteArray} (ho : Only fs l) (hl : ∀ s ∈ l, s = trialN ∨ ∃ n < 99, s = cntN n) : ∀ x ∈ namesB fs, NameK x := fun x hx => by
  have h1 : x ∈ fs.map (fun p => p.1.data.toList) := by
    unfold namesB at hx
    exact (List.mergeSort_perm _ leB).mem_iff.1 hx
  have h2 := (mem_names hu x).1 h1
  by_cases h3 : ownL x = true
  · exact .inl h3
  · right
    have h4 : ownB ⟨⟨x⟩⟩ = false := by
      have : ownB ⟨⟨x⟩⟩ = ownL x := rfl
      rw [this]; simpa using h3
    have h5 : (⟨⟨x⟩⟩ : ByteArray) ∈ l := Classical.byContradiction fun h => h2 (ho _ h4 h)
    rcases hl _ h5 with h6 | ⟨n, hn, h6⟩
    · exact .inl (by rw [← h6])
    · exact .inr ⟨n, hn, by rw [← cntL_name] at h6; injection h6 with h6; injection h6 with h6⟩
theorem cutp_any (s p : ByteArray) (w : World) : Calls Tryz.prog 63 #[.string s, .string p] w fun e w' => e = .returned (if Lib.hasPrefix s.data.toList p.data.toList = true then .tuple #[.string (s.extract p.size s.size), .bool true] else .tuple #[.string s, .bool false]) ∧ w = w' := by
  have hcp := Tryz.stringslite_HasPrefix s p w
  have h0 : Calls Tryz.prog 79 #[.string s, .string p] w fun e w' => e = .returned (if Lib.hasPrefix s.data.toList p.data.toList = true then .tuple #[.string (s.extract p.size s.size), .bool true] else .tuple #[.string s, .bool false]) ∧ w = w' := by
    have hle : Lib.hasPrefix s.data.toList p.data.toList = true → p.size ≤ s.size := fun h => by
      have h1 := List.isPrefixOf_iff_prefix.1 h
      have := h1.length_le
      simpa using this
    generalize Lib.hasPrefix s.data.toList p.data.toList = b at hcp hle ⊢
    cases b with
    | true =>
      have hle := hle rfl
      simp only [if_true]
      go_enter Tryz.func79, Tryz.ntmps79
      go_wp2_with (go_at_call 77; refine hcp.mono ?_; rintro e w2 ⟨rfl, rfl⟩)
      go_ret2
      exact ⟨rfl, rfl⟩
    | false =>
      clear hle
      simp only [if_false, Bool.false_eq_true]
      go_enter Tryz.func79, Tryz.ntmps79
      go_wp2_with (go_at_call 77; refine hcp.mono ?_; rintro e w2 ⟨rfl, rfl⟩)
      go_ret2
      exact ⟨rfl, rfl⟩
  clear hcp
  generalize (Lib.hasPrefix s.data.toList p.data.toList) = b at h0 ⊢
  cases b with
  | true =>
    simp only [if_true] at h0 ⊢
    go_enter Tryz.func63, Tryz.ntmps63
    go_wp2_with (go_at_call 79; refine h0.mono ?_; rintro e w2 ⟨rfl, rfl⟩)
    go_ret2
    exact ⟨rfl, rfl⟩
  | false =>
    simp only [if_false, Bool.false_eq_true] at h0 ⊢
    go_enter Tryz.func63, Tryz.ntmps63
    go_wp2_with (go_at_call 79; refine h0.mono ?_; rintro e w2 ⟨rfl, rfl⟩)
    go_ret2
    exact ⟨rfl, rfl⟩
theorem cut_not {s : ByteArray} (h : ownL s.data.toList = true ∨ s = trialN) (w : World) : Calls Tryz.prog 63 #[.string s, .string ⟨#[106, 111, 117, 114, 110, 97, 108, 45]⟩] w fun e w' => e = .returned (.tuple #[.string s, .bool false]) ∧ w = w' := by
  have hp : Lib.hasPrefix s.data.toList (⟨#[106, 111, 117, 114, 110, 97, 108, 45]⟩ : ByteArray).data.toList = false := by
    rcases h with h | rfl
    · rw [Bool.eq_false_iff]
      intro h1
      have h2 := List.isPrefixOf_iff_prefix.1 h1
      unfold ownL at h
      have h3 : ([106, 111, 117, 114, 110, 97, 108] : Bs).isPrefixOf s.data.toList = true := List.isPrefixOf_iff_prefix.2 (List.IsPrefix.trans (by decide) h2)
      rw [h3] at h; cases h
    · decide +kernel
  have := cutp_any s ⟨#[106, 111, 117, 114, 110, 97, 108, 45]⟩ w
  rw [hp] at this
  exact this
theorem cut_cnt (n : Nat) (w : World) : Calls Tryz.prog 63 #[.string (cntN n), .string ⟨#[106, 111, 117, 114, 110, 97, 108, 45]⟩] w fun e w' => e = .returned (.tuple #[.string ⟨(decN n).toArray⟩, .bool true]) ∧ w = w' := by
  have hp : Lib.hasPrefix (cntN n).data.toList (⟨#[106, 111, 117, 114, 110, 97, 108, 45]⟩ : ByteArray).data.toList = true := by
    unfold Lib.hasPrefix
    rw [List.isPrefixOf_iff_prefix]
    exact ⟨decN n, by unfold cntN; simp⟩
  have he : (cntN n).extract 8 (cntN n).size = ⟨(decN n).toArray⟩ := by
    apply ByteArray.ext
    rw [ByteArray.data_extract]
    apply Array.ext'
    rw [Array.toList_extract]
    unfold cntN
    simp [ByteArray.size]
  have := cutp_any (cntN n) ⟨#[106, 111, 117, 114, 110, 97, 108, 45]⟩ w
  rw [hp] at this
  simp only [if_true] at this
  have e8 : (⟨#[106, 111, 117, 114, 110, 97, 108, 45]⟩ : ByteArray).size = 8 := rfl
  rw [e8, he] at this
  exact this
theorem dec_parse : ∀ n < 99, Lib.parseUintB 64 (decN n) = .ok n := by decide +kernel
theorem parse_any (n : Nat) (hn : n < 99) (w : World) : Calls Tryz.prog 64 #[.string ⟨(decN n).toArray⟩, .int .i64 10, .int .i64 64] w fun e w' => e = .returned (.tuple #[.int .u64 n, .nilIface]) ∧ Below w.heap.size w w' := by
  have hd : (decN n).length ≤ 2 := by unfold decN; split <;> simp
  refine (Tryz.strconv_ParseUint_10_at64_ok ⟨(decN n).toArray⟩ (by simp [ByteArray.size]; omega) n (by simpa using dec_parse n hn) w).mono ?_
  rintro e w' ⟨rfl, rfl | rfl⟩
  · exact ⟨rfl, Below.refl _ _⟩
  · exact ⟨rfl, Lib.bytesWorld_below _ _ _⟩
set_option maxRecDepth 100000 in
set_option maxHeartbeats 2000000 in
theorem counted_any (L : List (List UInt8)) (hL : L.length ≤ 1000000) (hk : ∀ x ∈ L, NameK x) (v : Value) (w : World) (B : Nat) (ho : w.ownsRow B 9 1 v L.length (L.map Go.Proofs.encStr)) :
    Calls Tryz.prog 43 #[v] w fun e w' => ∃ a, Best L a ∧ e = .returned (.tuple #[.int .u64 ((a.getD 0 : Nat) : Int), .bool a.isSome]) ∧ Below w.heap.size w w' := by
  obtain ⟨A, c, rfl, hc, hcells⟩ := own_at ho
  have HC := Lib.hid hcells
  have HK := Lib.hid hk
  clear ho hcells hk
  obtain ⟨nl, hnl⟩ : ∃ nl, L.length = nl := ⟨_, rfl⟩
  rw [hnl] at hL hc
  rw [hnl]
  have HN := Lib.hid hnl
  clear hnl
  go_enter Tryz.func43, Tryz.ntmps43
  go_wp2_with fail
  go_loopg [2, 3, 12] nl (fun q nv ok iv wr => ∃ (k : Nat) (a : Option Nat), k + q = nl ∧ iv = .int .i64 (k : Int) ∧ nv = .int .u64 ((a.getD 0 : Nat) : Int) ∧ ok = .bool a.isSome ∧ Hid (Best (L.take k) a ∧ Below w.heap.size w wr))
  case atStart => exact ⟨0, none, by omega, rfl, rfl, rfl, Lib.hid ⟨fun n _ h => by simp at h, Below.refl _ _⟩⟩
  case round =>
    obtain ⟨k, a, hk, rfl, rfl, rfl, HR⟩ := hrel
    by_cases hlt : k < nl
    · obtain ⟨x, hx⟩ : ∃ x, L[k]? = some x := ⟨_, List.getElem?_eq_getElem (by rw [HN.out]; exact hlt)⟩
      obtain ⟨g, rfl, _, hgl, h1⟩ := HC.out k (Go.Proofs.encStr x) (by rw [List.getElem?_map, hx]; rfl)
      have q0 := (HR.out.2.cell (p := ⟨g, k, none⟩) hgl).trans h1
      obtain ⟨sx, hsx⟩ : ∃ sx : ByteArray, (⟨⟨x⟩⟩ : ByteArray) = sx := ⟨_, rfl⟩
      have hsl : sx.data.toList = x := by rw [← hsx]
      have hq : Go.Proofs.encStr x = .string sx := by rw [← hsx]; first | done | rfl
      rw [hq] at q0
      have hnx : Hid (L.take (k + 1) = L.take k ++ [x]) := Lib.hid (by rw [List.take_add_one, hx]; rfl)
      have HKx := Lib.hid (HK.out x (List.mem_of_getElem? hx))
      clear h1 hx hq
      by_cases hkind : ∃ n < 99, x = cntL n
      · obtain ⟨m, hm, hxm⟩ := hkind
        obtain rfl : sx = cntN m := by rw [← hsx, hxm, cntL_name]
        have HX := Lib.hid (And.intro hxm hsl)
        have hcut := cut_cnt m wr
        have hpa := parse_any m hm wr
        have hct := fun W => counter_any m hm W
        obtain ⟨sy, hsy⟩ : ∃ sy, cntN m = sy := ⟨_, rfl⟩
        obtain ⟨dx, hdx⟩ : ∃ dx : ByteArray, ⟨(decN m).toArray⟩ = dx := ⟨_, rfl⟩
        rw [hsy] at q0 hcut hct
        rw [hdx] at hcut hpa
        clear hsx hsl hxm hsy hdx
        cases a with
        | none =>
          go_wp2_with (first
            | (go_at_call 63; refine hcut.mono ?_; rintro e w2 ⟨rfl, rfl⟩)
            | (go_at_call 64; refine hpa.mono ?_; rintro e w3 ⟨rfl, hb3⟩; have HB3 := Lib.hid hb3; clear hb3)
            | (go_at_call 32; refine (hct _).mono ?_; rintro e w4 ⟨rfl, rfl⟩))
          go_roundg (gk - 1)
          case measure => omega
          case rel => exact ⟨k + 1, some m, by omega, by go_num, rfl, rfl, Lib.hid ⟨by rw [hnx.out, HX.out.1]; exact HR.out.1.first hm, HR.out.2.trans (HB3.out.mono HR.out.2.size)⟩⟩
        | some n =>
          by_cases hnm : n < m
          · go_wp2_with (first
              | (go_at_call 63; refine hcut.mono ?_; rintro e w2 ⟨rfl, rfl⟩)
              | (go_at_call 64; refine hpa.mono ?_; rintro e w3 ⟨rfl, hb3⟩; have HB3 := Lib.hid hb3; clear hb3)
              | (go_at_call 32; refine (hct _).mono ?_; rintro e w4 ⟨rfl, rfl⟩))
            go_roundg (gk - 1)
            case measure => omega
            case rel => exact ⟨k + 1, some m, by omega, by go_num, rfl, rfl, Lib.hid ⟨by rw [hnx.out, HX.out.1]; exact HR.out.1.more hm hnm, HR.out.2.trans (HB3.out.mono HR.out.2.size)⟩⟩
          · go_wp2_with (first
              | (go_at_call 63; refine hcut.mono ?_; rintro e w2 ⟨rfl, rfl⟩)
              | (go_at_call 64; refine hpa.mono ?_; rintro e w3 ⟨rfl, hb3⟩; have HB3 := Lib.hid hb3; clear hb3)
              | (go_at_call 32; refine (hct _).mono ?_; rintro e w4 ⟨rfl, rfl⟩))
            go_roundg (gk - 1)
            case measure => omega
            case rel => exact ⟨k + 1, some n, by omega, by go_num, rfl, rfl, Lib.hid ⟨by rw [hnx.out, HX.out.1]; exact HR.out.1.less hm hnm, HR.out.2.trans (HB3.out.mono HR.out.2.size)⟩⟩
      · have hcut := cut_not (s := sx) (by
          rcases HKx.out with h | h | h
          · exact .inl (by rw [hsl]; exact h)
          · exact .inr (by rw [← hsx, h])
          · exact absurd h hkind) wr
        have HB := Lib.hid (HR.out.1.skip (x := x) (fun n hn e => hkind ⟨n, hn, e.symm⟩))
        clear hsx hsl hkind
        go_wp2_with (go_at_call 63; refine hcut.mono ?_; rintro e w2 ⟨rfl, rfl⟩)
        go_roundg (gk - 1)
        case measure => omega
        case rel => exact ⟨k + 1, a, by omega, by go_num, rfl, rfl, Lib.hid ⟨by rw [hnx.out]; exact HB.out, HR.out.2⟩⟩
    · obtain rfl : k = nl := by omega
      have hall : Hid (Best L a) := Lib.hid (by have := HR.out.1; rwa [List.take_of_length_le (by rw [HN.out]; exact Nat.le_refl _)] at this)
      go_wp2_with fail
      go_ret2
      exact ⟨a, hall.out, rfl, HR.out.2⟩
end Go.Proofs.YtmldpehkacemfaaGreatDoor
namespace Go.Proofs.YtmldpehkacemfaaGreatDoor
open Go.RowKit Go.Bd
theorem data_ne {s t : ByteArray} (h : s ≠ t) : s.data.toList ≠ t.data.toList := fun e => by
  apply h
  cases s with
  | mk ds =>
    cases t with
    | mk dx =>
      simp only at e
      rw [Array.toList_inj.1 e]
theorem bytes_ne {s t : ByteArray} (h : s ≠ t) : (s.toList == t.toList) = false := by
  have := data_ne h
  rw [ByteArray.toList_eq, ByteArray.toList_eq]
  simpa using this
theorem readN_le {l l' : Bs} {n : Nat} (h : readN l = some (n, l')) : l'.length ≤ l.length := by
  unfold readN at h
  split at h
  · cases h
  · split at h
    · cases h
    · injection h with h; injection h with h1 h2
      rw [← h2, List.length_drop]; omega
theorem readT_le {l l' s : Bs} (h : readT l = some (s, l')) : l'.length ≤ l.length ∧ s.length ≤ l.length := by
  unfold readT at h
  cases hn : readN l with
  | none => rw [hn] at h; cases h
  | some p =>
    obtain ⟨n, l1⟩ := p
    have := readN_le hn
    rw [hn] at h
    simp only [Option.bind_some] at h
    split at h
    · cases h
    · injection h with h; injection h with h1 h2
      rw [← h2, ← h1, List.length_drop, List.length_take]; omega
theorem readTs_le : ∀ (n : Nat) {l l' : Bs} {ss : List ByteArray}, readTs n l = some (ss, l') → l'.length ≤ l.length ∧ ∀ s ∈ ss, s.size ≤ l.length
  | 0, l, l', ss, h => by
    injection h with h; injection h with h1 h2
    subst h1 h2
    exact ⟨Nat.le_refl _, fun s hs => by cases hs⟩
  | n + 1, l, l', ss, h => by
    rw [readTs] at h
    cases ht : readT l with
    | none => rw [ht] at h; cases h
    | some p =>
      obtain ⟨s, l1⟩ := p
      have h1 := readT_le ht
      rw [ht] at h
      simp only [Option.bind_some] at h
      cases hr : readTs n l1 with
      | none => rw [hr] at h; cases h
      | some q =>
        obtain ⟨ss', l2⟩ := q
        have h2 := readTs_le n hr
        rw [hr] at h
        simp only [Option.map_some] at h
        injection h with h; injection h with h3 h4
        subst h3 h4
        refine ⟨by omega, fun x hx => ?_⟩
        rcases List.mem_cons.1 hx with rfl | hx
        · have e : (⟨s.toArray⟩ : ByteArray).size = s.length := by simp [ByteArray.size]
          rw [e]; omega
        · have := h2.2 x hx; omega
theorem readFs_le : ∀ (n : Nat) {l l' : Bs} {ss : List (ByteArray × Bs)}, readFs n l = some (ss, l') → l'.length ≤ l.length ∧ ∀ f ∈ ss, f.1.size ≤ l.length ∧ f.2.length ≤ l.length
  | 0, l, l', ss, h => by
    injection h with h; injection h with h1 h2
    subst h1 h2
    exact ⟨Nat.le_refl _, fun s hs => by cases hs⟩
  | n + 1, l, l', ss, h => by
    rw [readFs] at h
    cases ht : readT l with
    | none => rw [ht] at h; cases h
    | some p =>
      obtain ⟨s, l1⟩ := p
      have h1 := readT_le ht
      rw [ht] at h
      simp only [Option.bind_some] at h
      cases hu : readT l1 with
      | none => rw [hu] at h; cases h
      | some p2 =>
        obtain ⟨t, l1'⟩ := p2
        have h1' := readT_le hu
        rw [hu] at h
        simp only [Option.bind_some] at h
        cases hr : readFs n l1' with
        | none => rw [hr] at h; cases h
        | some q =>
          obtain ⟨ss', l2⟩ := q
          have h2 := readFs_le n hr
          rw [hr] at h
          simp only [Option.map_some] at h
          injection h with h; injection h with h3 h4
          subst h3 h4
          refine ⟨by omega, fun x hx => ?_⟩
          rcases List.mem_cons.1 hx with rfl | hx
          · have e : (⟨s.toArray⟩ : ByteArray).size = s.length := by simp [ByteArray.size]
            simp only
            rw [e]; omega
          · have := h2.2 x hx; omega
theorem readP_le {b : Bs} {p : Plan} (h : readP b = some p) : (∀ s ∈ p.rm, s.size ≤ b.length) ∧ ∀ f ∈ p.wr, f.1.size ≤ b.length ∧ f.2.length ≤ b.length := by
  unfold readP at h
  cases h1 : readN b with
  | none => rw [h1] at h; cases h
  | some p1 =>
    obtain ⟨n1, l1⟩ := p1
    have e1 := readN_le h1
    rw [h1] at h
    simp only [Option.bind_some] at h
    split at h
    · cases h
    · cases h2 : readN l1 with
      | none => rw [h2] at h; cases h
      | some p2 =>
        obtain ⟨n2, l2⟩ := p2
        have e2 := readN_le h2
        rw [h2] at h
        simp only [Option.bind_some] at h
        cases h3 : readTs n2 l2 with
        | none => rw [h3] at h; cases h
        | some p3 =>
          obtain ⟨ss, l3⟩ := p3
          have e3 := readTs_le n2 h3
          rw [h3] at h
          simp only [Option.bind_some] at h
          cases h4 : readN l3 with
          | none => rw [h4] at h; cases h
          | some p4 =>
            obtain ⟨n4, l4⟩ := p4
            have e4 := readN_le h4
            rw [h4] at h
            simp only [Option.bind_some] at h
            cases h5 : readFs n4 l4 with
            | none => rw [h5] at h; cases h
            | some p5 =>
              obtain ⟨fs, l5⟩ := p5
              have e5 := readFs_le n4 h5
              rw [h5] at h
              simp only [Option.bind_some] at h
              split at h
              · injection h with h
                subst h
                exact ⟨fun s hs => by have := e3.2 s hs; omega, fun f hf => by have := e5.2 f hf; omega⟩
              · cases h
set_option maxRecDepth 100000 in
theorem index_any (L : List (List UInt8)) (hL : L.length ≤ 1000000) (s : ByteArray) (v : Value) (w : World) (B : Nat) (ho : w.ownsRow B 9 1 v L.length (L.map Go.Proofs.encStr)) :
    Calls Tryz.prog 61 #[v, .string s] w fun e w' => (∃ i : Int, e = .returned (.int .i64 i) ∧ (0 ≤ i ↔ s.data.toList ∈ L)) ∧ w = w' := by
  obtain ⟨A, c, rfl, hc, hcells⟩ := own_at ho
  have HC := Lib.hid hcells
  clear ho hcells
  obtain ⟨nl, hnl⟩ : ∃ nl, L.length = nl := ⟨_, rfl⟩
  rw [hnl] at hL hc
  rw [hnl]
  have HN := Lib.hid hnl
  clear hnl
  go_enter Tryz.func61, Tryz.ntmps61
  go_wp2_with fail
  go_loopg [8] nl (fun q iv wr => ∃ k : Nat, k + q = nl ∧ iv = .int .i64 (k : Int) ∧ wr = w ∧ Hid (s.data.toList ∉ L.take k))
  case atStart => exact ⟨0, by omega, rfl, rfl, Lib.hid (by simp)⟩
  case round =>
    obtain ⟨k, hk, rfl, rfl, HR⟩ := hrel
    by_cases hlt : k < nl
    · obtain ⟨x, hx⟩ : ∃ x, L[k]? = some x := ⟨_, List.getElem?_eq_getElem (by rw [HN.out]; exact hlt)⟩
      obtain ⟨g, rfl, _, hgl, q0⟩ := HC.out k (Go.Proofs.encStr x) (by rw [List.getElem?_map, hx]; rfl)
      obtain ⟨sx, hsx⟩ : ∃ sx : ByteArray, (⟨⟨x⟩⟩ : ByteArray) = sx := ⟨_, rfl⟩
      have hsl : sx.data.toList = x := by rw [← hsx]
      have hq : Go.Proofs.encStr x = .string sx := by rw [← hsx]; first | done | rfl
      rw [hq] at q0
      have HX := Lib.hid (And.intro hx hsl)
      clear hx hsl hq hsx
      by_cases heq : s = sx
      · subst heq
        go_wp2_with fail
        go_ret
        exact ⟨⟨k, rfl, ⟨fun _ => by rw [HX.out.2]; exact List.mem_of_getElem? HX.out.1, fun _ => by omega⟩⟩, rfl⟩
      · have hne := bytes_ne heq
        have hdl : s.data.toList ≠ sx.data.toList := data_ne heq
        have hnx : Hid (s.data.toList ∉ L.take (k + 1)) := Lib.hid (by
          rw [List.take_add_one, HX.out.1]
          intro h
          rcases List.mem_append.1 h with h | h
          · exact HR.out h
          · rw [Option.toList_some, List.mem_singleton, ← HX.out.2] at h
            exact hdl h)
        have hne2 : ¬ (s.toList = sx.toList) := fun e => by rw [e] at hne; simp at hne
        clear hdl
        go_wp2_with fail
        go_roundg (gk - 1)
        case measure => omega
        case rel => exact ⟨k + 1, by omega, by go_num, rfl, hnx⟩
    · obtain rfl : k = nl := by omega
      have hno : Hid (s.data.toList ∉ L) := Lib.hid (by have := HR.out; rwa [List.take_of_length_le (by rw [HN.out]; exact Nat.le_refl _)] at this)
      go_wp2_with fail
      go_ret
      exact ⟨⟨-1, rfl, ⟨fun h => by omega, fun h => absurd h hno.out⟩⟩, rfl⟩
theorem contains_any (L : List (List UInt8)) (hL : L.length ≤ 1000000) (s : ByteArray) (v : Value) (w : World) (B : Nat) (ho : w.ownsRow B 9 1 v L.length (L.map Go.Proofs.encStr)) (b : Bool) (hb : b = true ↔ s.data.toList ∈ L) :
    Calls Tryz.prog 41 #[v, .string s] w fun e w' => e = .returned (.bool b) ∧ w = w' := by
  have hi := index_any L hL s v w B ho
  obtain ⟨A, c, rfl, _⟩ := own_slice2 ho
  clear ho
  have HB := Lib.hid hb
  clear hb
  go_enter Tryz.func41, Tryz.ntmps41
  go_wp2_with (go_at_call 61; refine hi.mono ?_; rintro e w1 ⟨⟨i, rfl, hi'⟩, rfl⟩; have HI := Lib.hid hi'; clear hi')
  have hbi : b = decide (0 ≤ i) := by
    have h1 := HB.out.trans HI.out.symm
    cases b with
    | true => exact (decide_eq_true (h1.1 rfl)).symm
    | false => exact (decide_eq_false (fun h => by have := h1.2 h; cases this)).symm
  go_ret
  refine ⟨?_, rfl⟩
  rw [hbi]
  first | done | rfl
end Go.Proofs.YtmldpehkacemfaaGreatDoor
