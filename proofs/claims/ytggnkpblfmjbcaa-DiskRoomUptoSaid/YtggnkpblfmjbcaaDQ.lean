/-
  Plain: what a write comes to. No condition.
-/
import Derived.Test.YtggnkpblfmjbcaaDP
namespace Go.Proofs.Ytggnkpblfmjbcaa
open Go.RowKit Go.Bd
theorem delB_delB (fs : Fs) (s : ByteArray) : delB (delB fs s) s = delB fs s := by
  unfold delB
  rw [List.filter_filter]
  simp
theorem setB_setB (fs : Fs) (s : ByteArray) (a b : Bs) : setB (setB fs s a) s b = setB fs s b := by
  unfold setB
  have h : delB (delB fs s ++ [(s, a)]) s = delB fs s := by
    have h1 : delB (delB fs s ++ [(s, a)]) s = delB (delB fs s) s ++ delB [(s, a)] s := by unfold delB; rw [List.filter_append]
    rw [h1, delB_delB]
    simp [delB]
  rw [h]
theorem run_pieces (s : ByteArray) : ∀ (ps : List Bs) (fs : Fs) (acc : Bs), (ps.map (Raw.behind s)).foldl (fun fs r => r.app fs) (setB fs s acc) = setB fs s (acc ++ ps.flatten)
  | [], fs, acc => by simp
  | p :: ps, fs, acc => by
    rw [List.map_cons, List.foldl_cons]
    have h : (Raw.behind s p).app (setB fs s acc) = setB fs s (acc ++ p) := by
      unfold Raw.app
      simp only [getB_set_same, Option.getD_some, setB_setB]
    rw [h, run_pieces s ps fs (acc ++ p)]
    simp
theorem pieces_flatten (q : Bs) : ∀ n, ((List.range n).map (pieceAt q)).flatten = q.take (n * 512)
  | 0 => by simp
  | n + 1 => by
    rw [List.range_succ, List.map_append, List.flatten_append, pieces_flatten q n]
    simp only [List.map_cons, List.map_nil, List.flatten_cons, List.flatten_nil, List.append_nil]
    unfold pieceAt
    have e : (n + 1) * 512 = n * 512 + 512 := by omega
    rw [e, List.take_add]
theorem chunks_flatten (q : Bs) : (chunksB q).flatten = q := by
  unfold chunksB
  rw [pieces_flatten, List.take_of_length_le (by omega)]
theorem chunks_length (q : Bs) : (chunksB q).length = (q.length + 511) / 512 := by unfold chunksB; simp
/-- **a file that is written, whole** -/
theorem run_write (h : List Raw) (s : ByteArray) (q : Bs) : runR (h ++ (.empty s :: (chunksB q).map (.behind s))) = setB (runR h) s q := by
  unfold runR
  rw [List.foldl_append, List.foldl_cons]
  show List.foldl _ (setB _ s []) _ = _
  rw [run_pieces, List.nil_append, chunks_flatten]
theorem run_rawsW (h : List Raw) (size : Nat) (s : ByteArray) (q : Bs) : runR (h ++ rawsW (runR h) size s q) = if writeE (runR h) size s q = 0 then setB (runR h) s q else runR h := by
  unfold rawsW
  split
  · exact run_write h s q
  · rw [List.append_nil]
theorem run_rawsD (h : List Raw) (s : ByteArray) : runR (h ++ rawsD (runR h) s) = if removeE (runR h) s = 0 then delB (runR h) s else runR h := by
  unfold rawsD
  split
  · rw [runR_snoc]; rfl
  · rw [List.append_nil]
theorem rawsW_length (fs : Fs) (size : Nat) (s : ByteArray) (q : Bs) : (rawsW fs size s q).length ≤ (q.length + 511) / 512 + 1 := by
  unfold rawsW
  split
  · rw [List.length_cons, List.length_map, chunks_length]; omega
  · simp
theorem rawsD_length (fs : Fs) (s : ByteArray) : (rawsD fs s).length ≤ 1 := by
  unfold rawsD
  split <;> simp
/-- a disk as it stands -/
def Dk (w : World) (F Ro : Nat → Prop) (db size : Nat) (hist : List Raw) : Prop := ∃ bm es hv fs, DiskAt w F Ro db size es hist bm hv fs hist
section
variable {w w' : World} {F F' Ro S : Nat → Prop} {db size : Nat} {hist : List Raw}
theorem Dk.chg (h : Dk w F Ro db size hist) (hc : Chg w w' S) (hS : ∀ k, F k → ¬ S k) (hR : ∀ k, Ro k → ¬ S k) : Dk w' F Ro db size hist := by
  obtain ⟨bm, es, hv, fs, h⟩ := h
  exact ⟨bm, es, hv, fs, h.chg (F' := F) (Ro' := Ro) hc hS hR⟩
theorem Dk.below (h : Dk w F Ro db size hist) (hb : Below w.heap.size w w') : Dk w' F Ro db size hist := h.chg (Chg.below hb (fun _ => False)) (fun _ _ h => h) (fun _ _ h => h)
theorem Dk.ltF (h : Dk w F Ro db size hist) : ∀ k, F k → k < w.heap.size := by
  obtain ⟨bm, es, hv, fs, h⟩ := h
  exact h.ltF
theorem Dk.ltR (h : Dk w F Ro db size hist) : ∀ k, Ro k → k < w.heap.size := by
  obtain ⟨bm, es, hv, fs, h⟩ := h
  exact h.ltR
theorem Dk.off (h : Dk w F Ro db size hist) : ∀ k, Ro k → ¬ F k := by
  obtain ⟨bm, es, hv, fs, h⟩ := h
  exact h.off
theorem new_dk (size : Nat) (hs : size ≤ 8388608) (w : World) :
    Calls Try.prog 7 #[.int .i64 (size : Int)] w fun e w' => ∃ db, e = .returned (.tuple #[.pointer (some ⟨db, 0, none⟩), .int .i64 0]) ∧ Dk w' (fun k => w.heap.size ≤ k ∧ k < w'.heap.size) (fun _ => False) db size [] ∧ Below w.heap.size w w' := by
  refine (new_any size hs w).mono ?_
  rintro e w' ⟨rfl, h1, h2, h3, h4⟩
  exact ⟨_, rfl, ⟨_, _, _, _, DiskAt.new h1 h2 (by omega) ⟨by omega, by omega⟩ ⟨by omega, by omega⟩ (fun k hk => hk.2) (fun k hk => hk.elim) (fun k hk => hk.elim)⟩, h3⟩
theorem write_dk (h : Dk w F Ro db size hist) (s : ByteArray) (hs : s.size ≤ 140737488355328) (q : Bs) (A : Option Addr) (c : Nat)
    (hA : InB w F A q) (hq : q.length ≤ 100000000) (hc : q.length ≤ c) (hh : hist.length + (q.length + 511) / 512 + 2 ≤ 900000) (hsz : size ≤ 8388608) :
    Calls Try.prog 9 #[.pointer (some ⟨db, 0, none⟩), .string s, .slice A q.length c] w fun e w' => e = .returned (.int .i64 (writeE (runR hist) size s q : Int)) ∧
      ∃ F' Ro', Dk w' F' Ro' db size (hist ++ rawsW (runR hist) size s q) ∧ (∀ k, F' k → F k ∨ w.heap.size ≤ k) ∧ (∀ k, Ro' k → Ro k ∨ w.heap.size ≤ k) ∧ Chg w w' F := by
  obtain ⟨bm, es, hv, fs, h⟩ := h
  refine (write_any h s hs q A c hA hq hc hh hsz).mono ?_
  rintro e w' ⟨rfl, F', Ro', es', hv', fs', h1, h2, h3, h4⟩
  exact ⟨rfl, F', Ro', ⟨bm, es', hv', fs', h1⟩, h2, h3, h4⟩
theorem remove_dk (h : Dk w F Ro db size hist) (s : ByteArray) (hs : s.size ≤ 140737488355328) (hh : hist.length + 2 ≤ 900000) :
    Calls Try.prog 8 #[.pointer (some ⟨db, 0, none⟩), .string s] w fun e w' => e = .returned (.int .i64 (removeE (runR hist) s : Int)) ∧
      ∃ F' Ro', Dk w' F' Ro' db size (hist ++ rawsD (runR hist) s) ∧ (∀ k, F' k → F k ∨ w.heap.size ≤ k) ∧ (∀ k, Ro' k → Ro k ∨ w.heap.size ≤ k) ∧ Chg w w' F := by
  obtain ⟨bm, es, hv, fs, h⟩ := h
  refine (remove_any h s hs hh).mono ?_
  rintro e w' ⟨rfl, F', Ro', es', hv', fs', h1, h2, h3, h4⟩
  exact ⟨rfl, F', Ro', ⟨bm, es', hv', fs', h1⟩, h2, h3, h4⟩
theorem read_dk (h : Dk w F Ro db size hist) (s : ByteArray) (hs : s.size ≤ 140737488355328) (hh : hist.length ≤ 900000) :
    Calls Try.prog 13 #[.pointer (some ⟨db, 0, none⟩), .string s] w fun e w' => ∃ v', e = .returned (.tuple #[v', .int .i64 ((readB (runR hist) s).2 : Int)]) ∧ w'.ownsRow w.heap.size 5 1 v' (readB (runR hist) s).1.length (u8L (readB (runR hist) s).1) ∧ Below w.heap.size w w' := by
  obtain ⟨bm, es, hv, fs, h⟩ := h
  have h1 := h.used_le
  have h2 := read_any h s hs (by omega)
  rw [h.says] at h2
  exact h2
theorem names_dk (h : Dk w F Ro db size hist) (hh : hist.length ≤ 900000) :
    Calls Try.prog 16 #[.pointer (some ⟨db, 0, none⟩)] w fun e w' => ∃ v, e = .returned v ∧ w'.ownsRow w.heap.size 9 1 v (namesB (runR hist)).length ((namesB (runR hist)).map Go.Proofs.encStr) ∧ Below w.heap.size w w' := by
  obtain ⟨bm, es, hv, fs, h⟩ := h
  exact names_any h hh
theorem used_dk (h : Dk w F Ro db size hist) :
    Calls Try.prog 15 #[.pointer (some ⟨db, 0, none⟩)] w fun e w' => e = .returned (.int .i64 (usedB (runR hist) : Int)) ∧ w' = w := by
  obtain ⟨bm, es, hv, fs, h⟩ := h
  have h2 := used_any h
  rw [h.says] at h2
  exact h2
theorem writes_dk (h : Dk w F Ro db size hist) :
    Calls Try.prog 10 #[.pointer (some ⟨db, 0, none⟩)] w fun e w' => e = .returned (.int .i64 (hist.length : Int)) ∧ w' = w := by
  obtain ⟨bm, es, hv, fs, h⟩ := h
  exact writes_any h
theorem cut_dk (h : Dk w F Ro db size hist) (n : Int) (hh : hist.length + 2 ≤ 900000) (hsz : size ≤ 8388608) :
    Calls Try.prog 11 #[.pointer (some ⟨db, 0, none⟩), .int .i64 n] w fun e w' => if n < 0 ∨ (hist.length : Int) < n then e = .returned (.tuple #[.pointer none, .int .i64 1]) ∧ w' = w else
      ∃ ndb, e = .returned (.tuple #[.pointer (some ⟨ndb, 0, none⟩), .int .i64 0]) ∧ Dk w' (fun k => w.heap.size ≤ k ∧ k < w'.heap.size) Ro ndb size (hist.take n.toNat) ∧ Below w.heap.size w w' := by
  obtain ⟨bm, es, hv, fs, h⟩ := h
  refine (cut_any h n hh hsz).mono ?_
  intro e w' hp
  by_cases hn : n < 0 ∨ (hist.length : Int) < n
  · simp only [hn, if_true] at hp ⊢
    exact hp
  · simp only [hn, if_false] at hp ⊢
    obtain ⟨ndb, rfl, F', bm', es', hv', fs', h1, h2, h3⟩ := hp
    exact ⟨ndb, rfl, ⟨bm', es', hv', fs', h1.wider (fun k hk => ⟨h2 k hk, h1.ltF k hk⟩) (fun k hk => hk.2) (fun k hk hf => by have := h.ltR k hk; omega)⟩, h3⟩
end
set_option maxRecDepth 100000 in
set_option maxHeartbeats 2000000 in
theorem write_nil (s : ByteArray) (v : Value) (w : World) :
    Calls Try.prog 9 #[.pointer none, .string s, v] w fun e w' => e = .returned (.int .i64 2) ∧ Below w.heap.size w w' := by
  refine (callsIn_wide (n := 3)).1 ?_
  refine callsIn_of_wp_marks Try.func9 rfl trivial ?_ rfl
  refine wpIn_mono ?_ (noP_mono _)
  refine wpIn_wide.2 ?_
  simp only [Try.ntmps9, List.size_toArray, List.length_cons, List.length_nil, Nat.reduceAdd, Nat.reduceSub, Array.replicate_succ, Array.replicate_zero, List.push_toArray, List.append_toArray, List.nil_append, List.cons_append]
  go_wp2_with (go_at_call 17; refine (there_nil _).mono ?_; rintro e w1 ⟨rfl, rfl⟩)
  exact ⟨_, results_tmp rfl _ _ _, rfl, ((Below.refl _ w).alloc (Nat.le_refl _) _).alloc (by simp) _⟩
set_option maxRecDepth 100000 in
set_option maxHeartbeats 2000000 in
theorem writes_nil (w : World) :
    Calls Try.prog 10 #[.pointer none] w fun e w' => e = .returned (.int .i64 0) ∧ w' = w := by
  go_enter Try.func10, Try.ntmps10
  go_wp2_with (go_at_call 17; refine (there_nil _).mono ?_; rintro e w1 ⟨rfl, rfl⟩)
  go_ret
  exact ⟨rfl, rfl⟩
end Go.Proofs.Ytggnkpblfmjbcaa
