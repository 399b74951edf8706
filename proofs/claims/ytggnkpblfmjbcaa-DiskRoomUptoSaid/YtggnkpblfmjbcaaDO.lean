/-
  Walks: a disk is cut.
-/
import Derived.Test.YtggnkpblfmjbcaaDN
namespace Go.Proofs.Ytggnkpblfmjbcaa
open Go.RowKit Go.Bd Go.Shelf Go.Maps
set_option maxRecDepth 100000 in
set_option maxHeartbeats 2000000 in
theorem cut_any {w : World} {F Ro : Nat → Prop} {db size bm : Nat} {es : List Fe} {hist : List Raw} {hv : Value} {fs : List Value} (h : DiskAt w F Ro db size es hist bm hv fs hist) (n : Int) (hh : hist.length + 2 ≤ 900000) (hsz : size ≤ 8388608) :
    Calls Try.prog 11 #[.pointer (some ⟨db, 0, none⟩), .int .i64 n] w fun e w' => if n < 0 ∨ (hist.length : Int) < n then e = .returned (.tuple #[.pointer none, .int .i64 1]) ∧ w' = w else
      ∃ ndb, e = .returned (.tuple #[.pointer (some ⟨ndb, 0, none⟩), .int .i64 0]) ∧ ∃ F' bm' es' hv' fs', DiskAt w' F' Ro ndb size es' (hist.take n.toNat) bm' hv' fs' (hist.take n.toNat) ∧ (∀ k, F' k → w.heap.size ≤ k) ∧ Below w.heap.size w w' := by
  have ht := there_any db bm _ _ hv w h.hold
  have p0 := h.hold.cell 0
  have p3 := h.hold.cell 3
  simp at p0 p3
  have hrow := h.row
  obtain ⟨A, c, rfl, hlc⟩ : ∃ A c, hv = .slice A hist.length c ∧ hist.length ≤ c := by
    rcases h.row.2 with ⟨h1, h2⟩ | ⟨g, cap, cur, h1, _, _, h3, _⟩
    · exact ⟨none, 0, by rw [h1, h2], by omega⟩
    · exact ⟨_, _, h1, h3⟩
  have HW := Lib.hid h
  by_cases hbad : n < 0 ∨ (hist.length : Int) < n
  · simp only [hbad, if_true]
    rcases hbad with hb | hb
    · clear h hrow
      go_enter Try.func11, Try.ntmps11
      go_wp2_with (go_at_call 17; refine ht.mono ?_; rintro e w1 ⟨rfl, rfl⟩)
      go_ret2
      exact ⟨rfl, rfl⟩
    · have hb0 : ¬ n < 0 := by omega
      clear h hrow
      go_enter Try.func11, Try.ntmps11
      go_wp2_with (go_at_call 17; refine ht.mono ?_; rintro e w1 ⟨rfl, rfl⟩)
      go_ret2
      exact ⟨rfl, rfl⟩
  · simp only [hbad, if_false]
    obtain ⟨m, rfl⟩ : ∃ m : Nat, n = m := ⟨n.toNat, by omega⟩
    have hm : m ≤ hist.length := by omega
    simp only [Int.toNat_natCast]
    have hcells : ∀ j, j < hist.length → ∃ b, A = some ⟨b, 0, none⟩ ∧ b < w.heap.size ∧ ∃ f r, hist[j]? = some r ∧ RawAt w Ro f r ∧ w.cell? ⟨b, j, none⟩ = some f := by
      intro j hj
      rcases hrow.2 with ⟨h1, h2⟩ | ⟨g, cap, cur, h1, _, h3, _⟩
      · omega
      · injection h1 with h1
        subst h1
        have hl : fs.length = hist.length := by simpa using hrow.1
        have hf := List.getElem?_eq_getElem (l := fs) (i := j) (by omega)
        have hr := List.getElem?_eq_getElem (l := hist) (i := j) hj
        refine ⟨g, rfl, (Array.getElem?_eq_some_iff.1 h3).1, _, _, hr, h.raws.2 j _ _ hf hr, ?_⟩
        have := hrow.cells (g := g) rfl j _ hf
        rw [add_addr] at this
        simpa using this
    have HC := Lib.hid hcells
    have hdb : db < w.heap.size := h.hold.lt
    have hmc : m ≤ c := by omega
    have hmm := @run_makeMap Try.prog
    clear h hrow hcells hbad
    go_enter Try.func11, Try.ntmps11
    go_wp2_with (go_at_call 17; refine ht.mono ?_; rintro e w1 ⟨rfl, rfl⟩)
    have hd1 : decide (hist.length < m) = false := decide_eq_false (by omega)
    have hd2 : decide ((m : Int) < 0) = false := decide_eq_false (by omega)
    simp only [hd1, hd2, Bool.or_false]
    go_loopg [8, 37] m (fun q _ vi wr => ∃ k : Nat, k + q = m ∧ vi = .int .i64 (k : Int) ∧ ∃ F1 es1 hv1 fs1, DiskAt wr F1 Ro (w1.heap.size + 1) size es1 (hist.take k) w1.heap.size hv1 fs1 (hist.take k) ∧ (∀ j, F1 j → w1.heap.size ≤ j) ∧ Below w1.heap.size w1 wr)
    case atStart =>
      have hH := Holds.new (w1.alloc (.map #[] 0)) 48 #[.int .i64 (size : Int), .int .i64 0, .map (some w1.heap.size), .slice none 0 0]
      rw [World.size_alloc] at hH
      refine ⟨0, by omega, rfl, fun k => k = w1.heap.size ∨ k = w1.heap.size + 1, [], .slice none 0 0, [], DiskAt.new hH ((FsMap.new w1 _ _).eq (Below.heap_alloc _ _ _ (by simp))) (by omega) (.inr rfl) (.inl rfl) (fun k hk => by simp; omega) (fun k hk => by have := HW.out.ltR k hk; simp; omega) (fun k hk hf => by have := HW.out.ltR k hk; omega), fun k hk => by omega, ((Below.refl _ w1).alloc (Nat.le_refl _) _).alloc (by simp) _⟩
    case round =>
      obtain ⟨k, hk, rfl, F1, es1, hv1, fs1, hD, hF, hB⟩ := hrel
      by_cases hlt : k < m
      · obtain ⟨b, rfl, hbl, f, r, hr, hra, hcf⟩ := HC.out k (by omega)
        have hcf2 := (hB.cell (p := ⟨b, k, none⟩) hbl).trans hcf
        have hel := hD.len_le
        have hus := hD.used_le
        have htl : (hist.take k).length = k := by rw [List.length_take]; omega
        have hra2 := raw_any hD (hra.chg (Ro' := Ro) (Chg.below hB (fun _ => False)) (fun _ h => h) (fun _ _ h => h)) (by omega) (by omega) (by omega)
        have hts : hist.take (k + 1) = hist.take k ++ [r] := by rw [List.take_add_one, hr]; rfl
        have HD := Lib.hid hD
        have HB := Lib.hid hB
        have HF := Lib.hid hF
        clear hD hB hF
        go_wp2_with (go_at_call 19; refine hra2.mono ?_; rintro e w2 ⟨⟨v2, rfl⟩, es2, hv2, hD2, hc2⟩)
        have hs2 := hc2.size
        have hs1 := HB.out.size
        go_roundg (gk - 1)
        case measure => omega
        case rel =>
          refine ⟨k + 1, by omega, by go_num, _, es2, hv2, _, hts ▸ hD2, fun j hj => ?_, HB.out.trans (hc2.toBelow hs1 (fun j hj => HF.out j hj))⟩
          rcases hj with hj | hj
          · exact HF.out j hj
          · omega
      · obtain rfl : k = m := by omega
        go_wp2
        go_ret2
        exact ⟨_, rfl, F1, _, es1, hv1, fs1, hD, hF, hB⟩
end Go.Proofs.Ytggnkpblfmjbcaa
