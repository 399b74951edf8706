/-
  Walks: a file is written.
-/
import Derived.Test.YtggnkpblfmjbcaaDM
import Derived.Test.YtggnkpblfmjbcaaDi
namespace Go.Proofs.Ytggnkpblfmjbcaa
open Go.RowKit Go.Bd Go.Shelf
attribute [local go_sem] Oper.semAt_some
/-- no panic, and what else is said -/
def noP (Q : Exit → Act → World → Prop) : Exit → Act → World → Prop
  | .panic _, _, _ => False
  | .normal, a, w => Q .normal a w
  | .ret, a, w => Q .ret a w
  | .exit id, a, w => Q (.exit id) a w
  | .goto t, a, w => Q (.goto t) a w
  | .outgrown, a, w => Q .outgrown a w
theorem noP_mono (Q : Exit → Act → World → Prop) : ∀ (e : Exit) (a : Act) (w : World), noP Q e a w → Q e a w
  | .panic _, _, _, h => h.elim
  | .normal, _, _, h => h
  | .ret, _, _, h => h
  | .exit _, _, _, h => h
  | .goto _, _, _, h => h
  | .outgrown, _, _, h => h
/-- what a write answers -/
def writeE (fs : Fs) (size : Nat) (s : ByteArray) (q : Bs) : Nat :=
  if nameB s then if (getB fs s).isNone ∧ 256 ≤ fs.length then 6 else if (q.length : Int) > (size : Int) - ((usedB fs : Int) - (((getB fs s).getD []).length : Int)) then 6 else 0 else 1
/-- the pieces of bytes, one behind the other -/
def chunksB (q : Bs) : List Bs := (List.range ((q.length + 511) / 512)).map (pieceAt q)
/-- the raw writes of a write -/
def rawsW (fs : Fs) (size : Nat) (s : ByteArray) (q : Bs) : List Raw := if writeE fs size s q = 0 then .empty s :: (chunksB q).map (.behind s) else []
theorem uptoP_vals (L : Nat) : ∀ k, (uptoP L k).map (·.1) = List.range (min k ((L + 511) / 512))
  | 0 => by simp [uptoP]
  | k + 1 => by
    rw [uptoP, List.map_append, uptoP_vals L k]
    by_cases h : k * 512 < L
    · rw [dif_pos h]
      have h1 : min k ((L + 511) / 512) = k := by omega
      have h2 : min (k + 1) ((L + 511) / 512) = k + 1 := by omega
      rw [h1, h2, List.range_succ]
      rfl
    · rw [dif_neg h]
      have h1 : min k ((L + 511) / 512) = (L + 511) / 512 := by omega
      have h2 : min (k + 1) ((L + 511) / 512) = (L + 511) / 512 := by omega
      rw [h1, h2]
      simp
theorem uptoP_all {q : Bs} {k : Nat} (h : q.length ≤ k * 512) (s : ByteArray) : (uptoP q.length k).map (fun x => Raw.behind s (pieceAt q x.1)) = (chunksB q).map (.behind s) := by
  have h1 := uptoP_vals q.length k
  have h2 : min k ((q.length + 511) / 512) = (q.length + 511) / 512 := by omega
  rw [h2] at h1
  unfold chunksB
  rw [← h1, List.map_map, List.map_map]
  rfl
/-- a slice of bytes as it is handed in -/
def InB (w : World) (F : Nat → Prop) (A : Option Addr) (q : Bs) : Prop := q = [] ∨ ∃ blk off, A = some ⟨blk, off, none⟩ ∧ ¬ F blk ∧ ∀ (j : Nat) u, (u8L q)[j]? = some u → w.cell? ⟨blk, off + j, none⟩ = some u
theorem InB.chg {w w' : World} {F : Nat → Prop} {A : Option Addr} {q : Bs} (h : InB w F A q) (hc : Chg w w' F) : InB w' F A q := by
  rcases h with h | ⟨blk, off, h1, h2, h3⟩
  · exact .inl h
  · exact .inr ⟨blk, off, h1, h2, fun j u hu => hc.cell (p := ⟨blk, off + j, none⟩) h2 (h3 j u hu)⟩
theorem clone_all {w : World} {F : Nat → Prop} {A : Option Addr} {q : Bs} (h : InB w F A q) (c : Nat) (hq : q.length ≤ 1000000000000) :
    Calls Try.prog 23 #[.slice A q.length c] w fun e w' => ∃ A' c' g, e = .returned (.slice A' q.length c') ∧ q.length ≤ c' ∧ c' ≤ 9223372036854775807 ∧ (q.length ≠ 0 → A' = some ⟨g, 0, none⟩) ∧ (q.length ≠ 0 → w.heap.size ≤ g ∧ g < w'.heap.size) ∧ (∀ (j : Nat) u, (u8L q)[j]? = some u → w'.cell? ⟨g, 0 + j, none⟩ = some u) ∧ Below w.heap.size w w' := by
  rcases h with rfl | ⟨blk, off, rfl, _, hc⟩
  · cases A with
    | none =>
      refine (clone_nil 0 c w).mono ?_
      rintro e w' ⟨rfl, rfl⟩
      exact ⟨none, 0, 0, rfl, Nat.le_refl _, Nat.zero_le _, fun h => absurd rfl h, fun h => absurd rfl h, fun j u h => by simp [u8L] at h, Below.refl _ _⟩
    | some a =>
      refine (clone_empty a c w).mono ?_
      rintro e w' ⟨v', rfl, ho, _, hb⟩
      obtain ⟨A', cap, hv, _, hm⟩ : ∃ A' cap, v' = .slice A' 0 cap ∧ 0 ≤ cap ∧ cap ≤ maxLen := by
        rcases ho.2 with ⟨h1, _⟩ | ⟨g, cap, cur, h1, _, _, _, h5, _⟩
        · exact ⟨none, 0, h1, Nat.le_refl _, Nat.zero_le _⟩
        · exact ⟨_, cap, h1, Nat.zero_le _, h5⟩
      exact ⟨A', cap, 0, by rw [hv]; rfl, Nat.zero_le _, by simpa only [maxLen] using hm, fun h => absurd rfl h, fun h => absurd rfl h, fun j u h => by simp [u8L] at h, hb⟩
  · refine (clone_any q blk off c w hq hc).mono ?_
    rintro e w' ⟨v', rfl, ho, _, hb⟩
    have hcl := fun (g : Nat) (e : v'.ownBlock = some g) => ho.cells e
    rcases ho.2 with ⟨h1, h2⟩ | ⟨g, cap, cur, h1, h2, h3, h4, h5, _⟩
    · exact ⟨none, 0, 0, by rw [h1, h2], by omega, Nat.zero_le _, fun h => absurd h2 h, fun h => absurd h2 h, fun j u h => by rw [List.eq_nil_of_length_eq_zero h2] at h; simp [u8L] at h, hb⟩
    · exact ⟨_, cap, g, by rw [h1], h4, by simpa only [maxLen] using h5, fun _ => rfl, fun _ => ⟨h2, (Array.getElem?_eq_some_iff.1 h3).1⟩, fun j u h => by have := hcl g (by rw [h1]; rfl) j u h; rwa [add_addr] at this, hb⟩
theorem nameB_le {s : ByteArray} (h : nameB s = true) : s.size ≤ 80 := by
  unfold nameB at h
  exact (of_decide_eq_true h).2.1
set_option maxRecDepth 100000 in
set_option maxHeartbeats 2000000 in
theorem write_any {w : World} {F Ro : Nat → Prop} {db size bm : Nat} {es : List Fe} {hist : List Raw} {hv : Value} {fs : List Value} (h : DiskAt w F Ro db size es hist bm hv fs hist) (s : ByteArray) (hs : s.size ≤ 140737488355328) (q : Bs) (A : Option Addr) (c : Nat)
    (hA : InB w F A q) (hq : q.length ≤ 100000000) (hc : q.length ≤ c) (hh : hist.length + (q.length + 511) / 512 + 2 ≤ 900000) (hsz : size ≤ 8388608) :
    Calls Try.prog 9 #[.pointer (some ⟨db, 0, none⟩), .string s, .slice A q.length c] w fun e w' => e = .returned (.int .i64 (writeE (runR hist) size s q : Int)) ∧
      ∃ F' Ro' es' hv' fs', DiskAt w' F' Ro' db size es' (hist ++ rawsW (runR hist) size s q) bm hv' fs' (hist ++ rawsW (runR hist) size s q) ∧ (∀ k, F' k → F k ∨ w.heap.size ≤ k) ∧ (∀ k, Ro' k → Ro k ∨ w.heap.size ≤ k) ∧ Chg w w' F := by
  suffices hS : ∀ R : Ending → World → Prop, (∀ e w', (e = .returned (.int .i64 (writeE (runR hist) size s q : Int)) ∧
      ∃ F' Ro' es' hv' fs', DiskAt w' F' Ro' db size es' (hist ++ rawsW (runR hist) size s q) bm hv' fs' (hist ++ rawsW (runR hist) size s q) ∧ (∀ k, F' k → F k ∨ w.heap.size ≤ k) ∧ (∀ k, Ro' k → Ro k ∨ w.heap.size ≤ k) ∧ Chg w w' F) → R e w') → Calls Try.prog 9 #[.pointer (some ⟨db, 0, none⟩), .string s, .slice A q.length c] w R from hS _ (fun _ _ h => h)
  intro R hR
  have hfl := h.len_le
  have hul := h.used_le
  obtain ⟨b3, hb3⟩ : ∃ b, w.heap.size = b := ⟨_, rfl⟩
  obtain ⟨w0, hw0⟩ : ∃ w0, (w.alloc (.cells #[.pointer (some ⟨db, 0, none⟩)] 26)).alloc (.cells #[.string s] 9) = w0 := ⟨_, rfl⟩
  have hB : Below w.heap.size w w0 := hw0 ▸ ((Below.refl w.heap.size w).alloc (Nat.le_refl _) (.cells #[.pointer (some ⟨db, 0, none⟩)] 26)).alloc (by simp) (.cells #[.string s] 9)
  have hs0 : w0.heap.size = b3 + 2 := by rw [← hw0, ← hb3]; simp
  have hc0 : Chg w w0 (fun _ => False) := Chg.below hB _
  have h0 := h.chg (F' := F) (Ro' := Ro) hc0 (fun _ _ h => h) (fun _ _ h => h)
  have H3 : Holds w0 b3 26 #[.pointer (some ⟨db, 0, none⟩)] := by rw [← hw0, ← hb3]; exact (Holds.new w _ _).alloc _
  have H4 : Holds w0 (b3 + 1) 9 #[.string s] := by rw [← hw0, ← hb3]; have := Holds.new (w.alloc (.cells #[.pointer (some ⟨db, 0, none⟩)] 26)) 9 #[.string s]; rwa [World.size_alloc] at this
  have c3 : w0.cell? ⟨b3, 0, none⟩ = some (.pointer (some ⟨db, 0, none⟩)) := H3.cell 0
  have c4 : w0.cell? ⟨b3 + 1, 0, none⟩ = some (.string s) := H4.cell 0
  have nF : Hid (∀ k, b3 ≤ k → ¬ F k) := fun k hk hf => by have := h.ltF k hf; omega
  have nR : Hid (∀ k, b3 ≤ k → ¬ Ro k) := fun k hk hf => by have := h.ltR k hf; omega
  have ht := there_any db bm _ _ hv w0 h0.hold
  have hnm := named_any s w0 hs
  have p0 := h0.hold.cell 0
  have p1 := h0.hold.cell 1
  have p2 := h0.hold.cell 2
  simp at p0 p1 p2
  have hlen := fun w' (he : FsMap w' Try.prog 9 bm es) ty => he.len map_under ty
  obtain ⟨A0, c0, hval, hlc⟩ := valF_form h0.rows s
  have hle : ((getB (fsOf es) s).getD []).length ≤ usedB (fsOf es) := by
    have := used_del (by rw [h.says]; exact uniq_runR _ : UniqB (fsOf es)) s
    omega
  have hsome : (findF es s).isSome = (getB (fsOf es) s).isSome := by rw [getB_of]; simp
  have hfs : (fsOf es).length = es.length := by simp [fsOf]
  rw [← h.says] at hR
  have HR := Lib.hid hR
  clear hR
  have HSO := Lib.hid hsome
  have HV := Lib.hid hval
  have HM := Lib.hid h0.map
  have HH0 := Lib.hid h0
  have HW := Lib.hid h
  have HC0 := Lib.hid hc0
  have HA := Lib.hid hA
  have HB3 := Lib.hid hb3
  have HLN := Lib.hid hlen
  clear h0 h hc0 hA hval hsome hB hlen
  refine (callsIn_wide (n := 3)).1 ?_
  refine callsIn_of_wp_marks Try.func9 rfl trivial ?_ rfl
  refine wpIn_mono ?_ (noP_mono _)
  refine wpIn_wide.2 ?_
  simp only [Try.ntmps9, List.size_toArray, List.length_cons, List.length_nil, Nat.reduceAdd, Nat.reduceSub, Array.replicate_succ, Array.replicate_zero, List.push_toArray, List.append_toArray, List.nil_append, List.cons_append]
  have hfail : ∀ (w' : World), Chg w0 w' (fun _ => False) → ∃ F' Ro' es' hv' fs', DiskAt w' F' Ro' db size es' (hist ++ []) bm hv' fs' (hist ++ []) ∧ (∀ k, F' k → F k ∨ w.heap.size ≤ k) ∧ (∀ k, Ro' k → Ro k ∨ w.heap.size ≤ k) ∧ Chg w w' F := fun w' hc' => ⟨F, Ro, es, hv, fs, by rw [List.append_nil]; exact HH0.out.chg (F' := F) (Ro' := Ro) hc' (fun _ _ h => h) (fun _ _ h => h), fun _ h => .inl h, fun _ h => .inl h, (HC0.out.trans hc' (fun _ _ h => h)).mono (fun _ _ h => h.elim)⟩
  have HFL := Lib.hid hfail
  clear hfail
  cases hb : nameB s with
  | false =>
    have hwe : writeE (fsOf es) size s q = 1 := by unfold writeE; simp [hb]
    rw [hb] at hnm
    go_wp2_with (first
      | ((try rw [hw0]); (try rw [hb3]); go_at_call 17; refine ht.mono ?_; rintro e w1 ⟨rfl, rfl⟩)
      | (go_at_call 18; refine hnm.mono ?_; rintro e w1 ⟨rfl, rfl⟩))
    refine ⟨_, results_tmp rfl _ _ _, ?_⟩
    refine HR.out _ _ ⟨by rw [hwe]; rfl, ?_⟩
    unfold rawsW
    rw [hwe]
    exact HFL.out _ (Chg.refl _ _)
  | true =>
    rw [hb] at hnm
    go_wp2_with (first
      | ((try rw [hw0]); (try rw [hb3]); go_at_call 17; refine ht.mono ?_; rintro e w1 ⟨rfl, rfl⟩)
      | (go_at_call 18; refine hnm.mono ?_; rintro e w1 ⟨rfl, rfl⟩))
    refine wp_region_held_drew (S := (fun w' => w'.cell? ⟨b3, 0, none⟩ = some (.pointer (some ⟨db, 0, none⟩)) ∧ w'.cell? ⟨b3 + 1, 0, none⟩ = some (.string s) ∧ w'.cell? ⟨db, 2, none⟩ = some (.map (some bm)) ∧ FsMap w' Try.prog 9 bm es)) (by kernel_rfl) ?_ (fun hHeld0 => ?_)
    · (try dsimp only)
      exact ⟨c3, c4, p2, HM.out.eq rfl⟩
    refine wpAnyH_take (i := 0) (oi := ⟨some 17, _, _, _, _, _⟩) (v := ?_) rfl (by kernel_rfl) (by kernel_rfl) (by kernel_rfl) (fun _ _ _ h => h) (Or.inl ⟨by kernel_rfl, ?_⟩) (by assumption) ?_
    rotate_left
    · (intro w hSw; (try dsimp only at hSw); go_simp; (first | done | with_reducible rfl))
    (try simp only [Act.put, List.setIfInBounds_toArray, List.set_cons_zero, List.set_cons_succ])
    refine wpAnyH_take (i := 1) (oi := ⟨some 18, _, _, _, _, _⟩) (v := ?_) rfl (by kernel_rfl) (by kernel_rfl) (by kernel_rfl) (fun _ _ _ h => h) (Or.inl ⟨by kernel_rfl, ?_⟩) (by assumption) ?_
    rotate_left
    · (intro w hSw; (try dsimp only at hSw); go_simp; (first | done | with_reducible rfl))
    (try simp only [Act.put, List.setIfInBounds_toArray, List.set_cons_zero, List.set_cons_succ])
    refine wpAnyH_take (i := 2) (oi := ⟨some 19, _, _, _, _, _⟩) (v := ?_) rfl (by kernel_rfl) (by kernel_rfl) (by kernel_rfl) (fun _ _ _ h => h) (Or.inl ⟨by kernel_rfl, ?_⟩) (by assumption) ?_
    rotate_left
    · (intro w hSw; (try dsimp only at hSw); go_simp; (first | done | with_reducible rfl))
    (try simp only [Act.put, List.setIfInBounds_toArray, List.set_cons_zero, List.set_cons_succ])
    refine wpAnyH_take (i := 3) (oi := ⟨some 20, _, _, _, _, _⟩) (v := ?_) rfl (by kernel_rfl) (by kernel_rfl) (by kernel_rfl) (fun _ _ _ h => h) (Or.inl ⟨by kernel_rfl, ?_⟩) (by assumption) ?_
    rotate_left
    · (intro w hSw; (try dsimp only at hSw); go_simp; (first | done | with_reducible rfl))
    (try simp only [Act.put, List.setIfInBounds_toArray, List.set_cons_zero, List.set_cons_succ])
    refine wpAnyH_take (i := 4) (oi := ⟨some 21, _, _, _, _, _⟩) (v := ?_) rfl (by kernel_rfl) (by kernel_rfl) (by kernel_rfl) (fun _ _ _ h => h) (Or.inl ⟨by kernel_rfl, ?_⟩) (by assumption) ?_
    rotate_left
    · (intro w hSw; (try dsimp only at hSw); go_simp; (first | done | with_reducible rfl))
    (try simp only [Act.put, List.setIfInBounds_toArray, List.set_cons_zero, List.set_cons_succ])
    refine wpAnyH_take (i := 5) (oi := ⟨some 22, _, _, _, _, _⟩) (v := (.tuple #[.slice A0 ((getB (fsOf es) s).getD []).length c0, .bool (getB (fsOf es) s).isSome])) rfl (by kernel_rfl) (by kernel_rfl) (by kernel_rfl) (fun _ _ _ h => h) (Or.inl ⟨by kernel_rfl, ?_⟩) (by assumption) ?_
    · intro w hSw
      have hl := hSw.2.2.2.look_ok (s := s) str_key map_under (zero_bytes w) (by simp only [maxLen]; omega)
      rw [HV.out, HSO.out] at hl
      go_simp
    (try simp only [Act.put, List.setIfInBounds_toArray, List.set_cons_zero, List.set_cons_succ])
    refine wpAnyH_take (i := 6) (oi := ⟨some 16, _, _, _, _, _⟩) (v := ?_) rfl (by kernel_rfl) (by kernel_rfl) (by kernel_rfl) (fun _ _ _ h => h) (Or.inl ⟨by kernel_rfl, ?_⟩) (by assumption) ?_
    rotate_left
    · (intro w hSw; (try dsimp only at hSw); go_simp; (first | done | with_reducible rfl))
    (try simp only [Act.put, List.setIfInBounds_toArray, List.set_cons_zero, List.set_cons_succ])
    refine wpAnyH_take (i := 7) (oi := ⟨some 23, _, _, _, _, _⟩) (v := ?_) rfl (by kernel_rfl) (by kernel_rfl) (by kernel_rfl) (fun _ _ _ h => h) (Or.inl ⟨by kernel_rfl, ?_⟩) (by assumption) ?_
    rotate_left
    · (intro w hSw; (try dsimp only at hSw); go_simp; (first | done | with_reducible rfl))
    (try simp only [Act.put, List.setIfInBounds_toArray, List.set_cons_zero, List.set_cons_succ])
    refine wpAnyH_take (i := 8) (oi := ⟨some 24, _, _, _, _, _⟩) (v := ?_) rfl (by kernel_rfl) (by kernel_rfl) (by kernel_rfl) (fun _ _ _ h => h) (Or.inl ⟨by kernel_rfl, ?_⟩) (by assumption) ?_
    rotate_left
    · (intro w hSw; (try dsimp only at hSw); go_simp; (first | done | with_reducible rfl))
    (try simp only [Act.put, List.setIfInBounds_toArray, List.set_cons_zero, List.set_cons_succ])
    refine wpAnyH_take (i := 9) (oi := ⟨some 7, _, _, _, _, _⟩) (v := ?_) rfl (by kernel_rfl) (by kernel_rfl) (by kernel_rfl) (fun _ _ _ h => h) (Or.inl ⟨by kernel_rfl, ?_⟩) (by assumption) ?_
    rotate_left
    · (intro w hSw; (try dsimp only at hSw); go_simp; (first | done | with_reducible rfl))
    (try simp only [Act.put, List.setIfInBounds_toArray, List.set_cons_zero, List.set_cons_succ])
    refine wpAnyH_take (i := 10) (oi := ⟨some 8, _, _, _, _, _⟩) (v := ?_) rfl (by kernel_rfl) (by kernel_rfl) (by kernel_rfl) (fun _ _ _ h => h) (Or.inl ⟨by kernel_rfl, ?_⟩) (by assumption) ?_
    rotate_left
    · (intro w hSw; (try dsimp only at hSw); go_simp; (first | done | with_reducible rfl))
    (try simp only [Act.put, List.setIfInBounds_toArray, List.set_cons_zero, List.set_cons_succ])
    refine wpAnyH_done (by kernel_rfl) ?_ _
    obtain ⟨q3, q4, q2, HMx⟩ := hHeld0
    have hlen := HLN.out _ HMx
    by_cases hful : (getB (fsOf es) s).isNone = true ∧ 256 ≤ (fsOf es).length
    · have hwe : writeE (fsOf es) size s q = 6 := by unfold writeE; rw [if_pos hb, if_pos hful]
      obtain ⟨hf1, hf2⟩ := hful
      rw [hfs] at hf2
      obtain hg := Option.isNone_iff_eq_none.1 hf1
      rw [hg] at hle hlc
      simp only [Option.getD_none, hg, Option.isSome_none, List.length_nil] at hle hlc ⊢
      go_wp2
      refine ⟨_, results_tmp rfl _ _ _, ?_⟩
      refine HR.out _ _ ⟨by rw [hwe]; rfl, ?_⟩
      unfold rawsW
      rw [hwe]
      exact HFL.out _ (Chg.refl _ _).drew
    · have hwe : writeE (fsOf es) size s q = if (q.length : Int) > (size : Int) - ((usedB (fsOf es) : Int) - (((getB (fsOf es) s).getD []).length : Int)) then 6 else 0 := by unfold writeE; rw [if_pos hb, if_neg hful]
      cases hg : getB (fsOf es) s with
      | none =>
        have hlt : es.length < 256 := by rw [← hfs]; exact Nat.lt_of_not_le fun h => hful ⟨by rw [hg]; rfl, h⟩
        rw [hg] at hle hlc hwe
        simp only [Option.getD_none, Option.isSome_none, List.length_nil] at hle hlc hwe ⊢
        clear hful
        go_wp2
        refine wp_region_held_drew (S := (fun w' => w'.cell? ⟨b3, 0, none⟩ = some (.pointer (some ⟨db, 0, none⟩)) ∧ w'.cell? ⟨b3 + 1, 0, none⟩ = some (.string s) ∧ w'.cell? ⟨db, 0, none⟩ = some (.int .i64 (size : Int)) ∧ w'.cell? ⟨db, 1, none⟩ = some (.int .i64 (usedB (fsOf es) : Int)))) (by kernel_rfl) ?_ (fun hHeld0 => ?_)
        · (try dsimp only)
          exact ⟨q3, q4, p0, p1⟩
        refine wpAnyH_take (i := 0) (oi := ⟨some 35, _, _, _, _, _⟩) (v := ?_) rfl (by kernel_rfl) (by kernel_rfl) (by kernel_rfl) (fun _ _ _ h => h) (Or.inl ⟨by kernel_rfl, ?_⟩) (by assumption) ?_
        rotate_left
        · (intro w hSw; (try dsimp only at hSw); go_simp; (first | done | with_reducible rfl))
        (try simp only [Act.put, List.setIfInBounds_toArray, List.set_cons_zero, List.set_cons_succ])
        refine wpAnyH_take (i := 1) (oi := ⟨some 36, _, _, _, _, _⟩) (v := ?_) rfl (by kernel_rfl) (by kernel_rfl) (by kernel_rfl) (fun _ _ _ h => h) (Or.inl ⟨by kernel_rfl, ?_⟩) (by assumption) ?_
        rotate_left
        · (intro w hSw; (try dsimp only at hSw); go_simp; (first | done | with_reducible rfl))
        (try simp only [Act.put, List.setIfInBounds_toArray, List.set_cons_zero, List.set_cons_succ])
        refine wpAnyH_take (i := 2) (oi := ⟨some 37, _, _, _, _, _⟩) (v := ?_) rfl (by kernel_rfl) (by kernel_rfl) (by kernel_rfl) (fun _ _ _ h => h) (Or.inl ⟨by kernel_rfl, ?_⟩) (by assumption) ?_
        rotate_left
        · (intro w hSw; (try dsimp only at hSw); go_simp; (first | done | with_reducible rfl))
        (try simp only [Act.put, List.setIfInBounds_toArray, List.set_cons_zero, List.set_cons_succ])
        refine wpAnyH_take (i := 3) (oi := ⟨some 38, _, _, _, _, _⟩) (v := ?_) rfl (by kernel_rfl) (by kernel_rfl) (by kernel_rfl) (fun _ _ _ h => h) (Or.inl ⟨by kernel_rfl, ?_⟩) (by assumption) ?_
        rotate_left
        · (intro w hSw; (try dsimp only at hSw); go_simp; (first | done | with_reducible rfl))
        (try simp only [Act.put, List.setIfInBounds_toArray, List.set_cons_zero, List.set_cons_succ])
        refine wpAnyH_take (i := 4) (oi := ⟨some 39, _, _, _, _, _⟩) (v := ?_) rfl (by kernel_rfl) (by kernel_rfl) (by kernel_rfl) (fun _ _ _ h => h) (Or.inl ⟨by kernel_rfl, ?_⟩) (by assumption) ?_
        rotate_left
        · (intro w hSw; (try dsimp only at hSw); go_simp; (first | done | with_reducible rfl))
        (try simp only [Act.put, List.setIfInBounds_toArray, List.set_cons_zero, List.set_cons_succ])
        refine wpAnyH_take (i := 5) (oi := ⟨some 40, _, _, _, _, _⟩) (v := ?_) rfl (by kernel_rfl) (by kernel_rfl) (by kernel_rfl) (fun _ _ _ h => h) (Or.inl ⟨by kernel_rfl, ?_⟩) (by assumption) ?_
        rotate_left
        · (intro w hSw; (try dsimp only at hSw); go_simp; (first | done | with_reducible rfl))
        (try simp only [Act.put, List.setIfInBounds_toArray, List.set_cons_zero, List.set_cons_succ])
        refine wpAnyH_take (i := 6) (oi := ⟨some 41, _, _, _, _, _⟩) (v := ?_) rfl (by kernel_rfl) (by kernel_rfl) (by kernel_rfl) (fun _ _ _ h => h) (Or.inl ⟨by kernel_rfl, ?_⟩) (by assumption) ?_
        rotate_left
        · (intro w hSw; (try dsimp only at hSw); go_simp; (first | done | with_reducible rfl))
        (try simp only [Act.put, List.setIfInBounds_toArray, List.set_cons_zero, List.set_cons_succ])
        refine wpAnyH_take (i := 7) (oi := ⟨some 42, _, _, _, _, _⟩) (v := ?_) rfl (by kernel_rfl) (by kernel_rfl) (by kernel_rfl) (fun _ _ _ h => h) (Or.inl ⟨by kernel_rfl, ?_⟩) (by assumption) ?_
        rotate_left
        · (intro w hSw; (try dsimp only at hSw); go_simp; (first | done | with_reducible rfl))
        (try simp only [Act.put, List.setIfInBounds_toArray, List.set_cons_zero, List.set_cons_succ])
        refine wpAnyH_take (i := 8) (oi := ⟨some 43, _, _, _, _, _⟩) (v := ?_) rfl (by kernel_rfl) (by kernel_rfl) (by kernel_rfl) (fun _ _ _ h => h) (Or.inl ⟨by kernel_rfl, ?_⟩) (by assumption) ?_
        rotate_left
        · (intro w hSw; (try dsimp only at hSw); go_simp; (first | done | with_reducible rfl))
        (try simp only [Act.put, List.setIfInBounds_toArray, List.set_cons_zero, List.set_cons_succ])
        refine wpAnyH_take (i := 9) (oi := ⟨some 44, _, _, _, _, _⟩) (v := ?_) rfl (by kernel_rfl) (by kernel_rfl) (by kernel_rfl) (fun _ _ _ h => h) (Or.inl ⟨by kernel_rfl, ?_⟩) (by assumption) ?_
        rotate_left
        · (intro w hSw; (try dsimp only at hSw); go_simp; (first | done | with_reducible rfl))
        (try simp only [Act.put, List.setIfInBounds_toArray, List.set_cons_zero, List.set_cons_succ])
        refine wpAnyH_take (i := 10) (oi := ⟨some 45, _, _, _, _, _⟩) (v := ?_) rfl (by kernel_rfl) (by kernel_rfl) (by kernel_rfl) (fun _ _ _ h => h) (Or.inl ⟨by kernel_rfl, ?_⟩) (by assumption) ?_
        rotate_left
        · (intro w hSw; (try dsimp only at hSw); go_simp; (first | done | with_reducible rfl))
        (try simp only [Act.put, List.setIfInBounds_toArray, List.set_cons_zero, List.set_cons_succ])
        refine wpAnyH_take (i := 11) (oi := ⟨some 46, _, _, _, _, _⟩) (v := ?_) rfl (by kernel_rfl) (by kernel_rfl) (by kernel_rfl) (fun _ _ _ h => h) (Or.inl ⟨by kernel_rfl, ?_⟩) (by assumption) ?_
        rotate_left
        · (intro w hSw; (try dsimp only at hSw); go_simp; (first | done | with_reducible rfl))
        (try simp only [Act.put, List.setIfInBounds_toArray, List.set_cons_zero, List.set_cons_succ])
        refine wpAnyH_take (i := 12) (oi := ⟨some 47, _, _, _, _, _⟩) (v := ?_) rfl (by kernel_rfl) (by kernel_rfl) (by kernel_rfl) (fun _ _ _ h => h) (Or.inl ⟨by kernel_rfl, ?_⟩) (by assumption) ?_
        rotate_left
        · (intro w hSw; (try dsimp only at hSw); go_simp; (first | done | with_reducible rfl))
        (try simp only [Act.put, List.setIfInBounds_toArray, List.set_cons_zero, List.set_cons_succ])
        refine wpAnyH_take (i := 13) (oi := ⟨some 48, _, _, _, _, _⟩) (v := ?_) rfl (by kernel_rfl) (by kernel_rfl) (by kernel_rfl) (fun _ _ _ h => h) (Or.inl ⟨by kernel_rfl, ?_⟩) (by assumption) ?_
        rotate_left
        · (intro w hSw; (try dsimp only at hSw); go_simp; (first | done | with_reducible rfl))
        (try simp only [Act.put, List.setIfInBounds_toArray, List.set_cons_zero, List.set_cons_succ])
        refine wpAnyH_take (i := 14) (oi := ⟨some 49, _, _, _, _, _⟩) (v := ?_) rfl (by kernel_rfl) (by kernel_rfl) (by kernel_rfl) (fun _ _ _ h => h) (Or.inl ⟨by kernel_rfl, ?_⟩) (by assumption) ?_
        rotate_left
        · (intro w hSw; (try dsimp only at hSw); go_simp; (first | done | with_reducible rfl))
        (try simp only [Act.put, List.setIfInBounds_toArray, List.set_cons_zero, List.set_cons_succ])
        refine wpAnyH_done (by kernel_rfl) ?_ _
        obtain ⟨r3, r4, r0, r1⟩ := hHeld0
        have e1 : IntKind.i64.wrap (usedB (fsOf es) : Int) = (usedB (fsOf es) : Int) := IntWalk.i64_in _ (by omega)
        have e2 : ∀ m : Nat, m ≤ usedB (fsOf es) → IntKind.i64.wrap ((usedB (fsOf es) : Int) - (m : Int)) = (usedB (fsOf es) : Int) - (m : Int) := fun m hm => IntWalk.i64_in _ (by omega)
        have e3 : IntKind.i64.wrap ((size : Int) - (usedB (fsOf es) : Int)) = (size : Int) - (usedB (fsOf es) : Int) := IntWalk.i64_in _ (by omega)
        have e4 : ∀ m : Nat, m ≤ usedB (fsOf es) → IntKind.i64.wrap ((size : Int) - ((usedB (fsOf es) : Int) - (m : Int))) = (size : Int) - ((usedB (fsOf es) : Int) - (m : Int)) := fun m hm => IntWalk.i64_in _ (by omega)
        (try simp only [e1, e2 _ hle, e3, e4 _ hle])
        (try simp only [e1, e3])
        clear e1 e2 e3 e4
        rcases Nat.lt_or_ge (size + ((getB (fsOf es) s).getD []).length) (q.length + usedB (fsOf es)) with hbig | hbig
        · rw [if_pos (by rw [hg] at hbig; simp at hbig ⊢; omega)] at hwe
          rw [hg] at hbig
          simp at hbig
          go_wp2
          refine ⟨_, results_tmp rfl _ _ _, ?_⟩
          refine HR.out _ _ ⟨by rw [hwe]; rfl, ?_⟩
          unfold rawsW
          rw [hwe]
          exact HFL.out _ (Chg.refl _ _).drew.drew
        · rw [if_neg (by rw [hg] at hbig; simp at hbig ⊢; omega)] at hwe
          rw [hg] at hbig
          simp at hbig
          go_wp2_with fail
          refine wp_region_held_drew (S := (fun w' => w'.cell? ⟨b3, 0, none⟩ = some (.pointer (some ⟨db, 0, none⟩)) ∧ w'.cell? ⟨b3 + 1, 0, none⟩ = some (.string s))) (by kernel_rfl) ?_ (fun hHeld0 => ?_)
          · (try dsimp only)
            first | exact ⟨r3, r4⟩ | exact ⟨HCe.out.cell (p := ⟨b3, 0, none⟩) (fun h => h) r3, HCe.out.cell (p := ⟨b3 + 1, 0, none⟩) (fun h => h) r4⟩ | exact ⟨HCr.out.cell (p := ⟨b3, 0, none⟩) (nF.out _ (Nat.le_refl _)) r3, HCr.out.cell (p := ⟨b3 + 1, 0, none⟩) (nF.out _ (Nat.le_succ _)) r4⟩
          refine wpAnyH_take (i := 0) (oi := ⟨some 50, _, _, _, _, _⟩) (v := ?_) rfl (by kernel_rfl) (by kernel_rfl) (by kernel_rfl) (fun _ _ _ h => h) (Or.inl ⟨by kernel_rfl, ?_⟩) (by assumption) ?_
          rotate_left
          · (intro w hSw; (try dsimp only at hSw); go_simp; (first | done | with_reducible rfl))
          (try simp only [Act.put, List.setIfInBounds_toArray, List.set_cons_zero, List.set_cons_succ])
          refine wpAnyH_take (i := 1) (oi := ⟨some 51, _, _, _, _, _⟩) (v := ?_) rfl (by kernel_rfl) (by kernel_rfl) (by kernel_rfl) (fun _ _ _ h => h) (Or.inl ⟨by kernel_rfl, ?_⟩) (by assumption) ?_
          rotate_left
          · (intro w hSw; (try dsimp only at hSw); go_simp; (first | done | with_reducible rfl))
          (try simp only [Act.put, List.setIfInBounds_toArray, List.set_cons_zero, List.set_cons_succ])
          refine wpAnyH_ready (rs := [2]) (by kernel_rfl) (by simp) ?_
          refine AllReadyH.cons (o := ⟨some 52, _, _, _, _, _⟩) rfl (fun K hK => ?_) AllReadyH.nil
          go_simp
          refine (empty_any s _ (nameB_le hb)).mono ?_
          rintro e w2 ⟨f2, rfl, hra, hbl⟩
          have HCe := Lib.hid (Chg.below hbl (fun _ => False))
          refine hK.out _ _ ?_ (fun hHeld1 => ?_)
          · (try dsimp only)
            first | exact ⟨r3, r4⟩ | exact ⟨HCe.out.cell (p := ⟨b3, 0, none⟩) (fun h => h) r3, HCe.out.cell (p := ⟨b3 + 1, 0, none⟩) (fun h => h) r4⟩ | exact ⟨HCr.out.cell (p := ⟨b3, 0, none⟩) (nF.out _ (Nat.le_refl _)) r3, HCr.out.cell (p := ⟨b3 + 1, 0, none⟩) (nF.out _ (Nat.le_succ _)) r4⟩
          clear hK K hHeld0
          (try simp only [Act.put, List.setIfInBounds_toArray, List.set_cons_zero, List.set_cons_succ])
          refine wpAnyH_ready (rs := [3]) (by kernel_rfl) (by simp) ?_
          refine AllReadyH.cons (o := ⟨some 53, _, _, _, _, _⟩) rfl (fun K hK => ?_) AllReadyH.nil
          go_simp
          have hC2 : Chg _ w2 (fun _ => False) := ((Chg.refl w1 (fun _ => False)).drew.drew.drew).trans HCe.out (fun _ _ h => h)
          have hD2 := HH0.out.chg (F' := F) (Ro' := Ro) hC2 (fun _ _ h => h) (fun _ _ h => h)
          have hD2' := hD2.ro (Ro' := fun k => Ro k ∨ (w1.heap.size ≤ k ∧ k < w2.heap.size)) (fun _ h => .inl h) (fun k h => by
            rcases h with h | h
            · exact hD2.ltR k h
            · exact h.2) (fun k h hf => by
            rcases h with h | h
            · exact hD2.off k h hf
            · exact nF.out k (by omega) hf)
          refine (raw_any hD2' (hra.chg (Ro' := fun k => Ro k ∨ (w1.heap.size ≤ k ∧ k < w2.heap.size)) (Chg.refl w2 (fun _ => False)) (fun k h => .inr h) (fun _ _ h => h)) (by omega) (by omega) (by omega)).mono ?_
          rintro e w3 ⟨⟨v3, rfl⟩, es3, hv3, hD3, hcr⟩
          have HCr := Lib.hid ((HCe.out.mono (T := F) (fun _ _ h => h.elim)).trans hcr (fun _ _ h => h))
          have HD3 := Lib.hid hD3
          clear hD3 hD2 hD2' hcr
          refine hK.out _ _ ?_ (fun hHeld2 => ?_)
          · (try dsimp only)
            first | exact ⟨r3, r4⟩ | exact ⟨HCe.out.cell (p := ⟨b3, 0, none⟩) (fun h => h) r3, HCe.out.cell (p := ⟨b3 + 1, 0, none⟩) (fun h => h) r4⟩ | exact ⟨HCr.out.cell (p := ⟨b3, 0, none⟩) (nF.out _ (Nat.le_refl _)) r3, HCr.out.cell (p := ⟨b3 + 1, 0, none⟩) (nF.out _ (Nat.le_succ _)) r4⟩
          clear hK K hHeld1
          (try simp only [Act.put, List.setIfInBounds_toArray, List.set_cons_zero, List.set_cons_succ])
          refine wpAnyH_done (by kernel_rfl) ?_ _
          obtain ⟨t3, t4⟩ := hHeld2
          have HC3 := Lib.hid (((HC0.out.mono (T := F) (fun _ _ h => h.elim)).drew.drew.drew).trans HCr.out (fun _ _ h => h))
          have hsz2 : w1.heap.size ≤ w2.heap.size := hC2.size
          have hA3 := HA.out.chg HC3.out
          go_wp2_with (first
            | (go_at_call 23; refine (clone_all hA3 c (by omega)).mono ?_; rintro e w4 ⟨A4, c4', g, rfl, hc4a, hc4b, hA4, hg4, hcl4, hb4⟩)
            | (go_at_call 22; refine (chunk_any A4 q.length c4' _).mono ?_; rintro e w5 ⟨rfl, rfl⟩))
          have HD4 := Lib.hid HD3.out
          have hbm : bm < b3 := by have := HW.out.ltF _ HW.out.inBm; omega
          have HC4 := Lib.hid (HC3.out.trans (Chg.below hb4 (fun _ => False)) (fun _ _ h => h.elim))
          have hsz4 := hb4.size
          have hsz3 := HC3.out.size
          have hszr : w1.heap.size ≤ w3.heap.size := HCr.out.size
          obtain ⟨bS, hbS⟩ : ∃ bS, w4.heap.size = bS := ⟨_, rfl⟩
          obtain ⟨w5, hw5⟩ : ∃ w5, (w4.alloc (.cells #[.slice A4 q.length c4'] 30)).alloc (.cells #[.int .i64 512] 3) = w5 := ⟨_, rfl⟩
          have hb5 : Below bS w4 w5 := by rw [← hw5, ← hbS]; exact ((Below.refl _ w4).alloc (Nat.le_refl _) _).alloc (by simp) _
          have hs5 : w5.heap.size = bS + 2 := by rw [← hw5, ← hbS]; simp
          have cS : w5.cell? ⟨bS, 0, none⟩ = some (.slice A4 q.length c4') := by rw [← hw5, ← hbS]; exact ((Holds.new w4 _ _).alloc _).cell 0
          have cN : w5.cell? ⟨bS + 1, 0, none⟩ = some (.int .i64 512) := by rw [← hw5, ← hbS]; have := Holds.new (w4.alloc (.cells #[.slice A4 q.length c4'] 30)) 3 #[.int .i64 512]; rw [World.size_alloc] at this; exact this.cell 0
          have hc45 : Chg w3 w5 (fun _ => False) := (Chg.below hb4 (fun _ => False)).trans (Chg.below (hbS ▸ hb5) (fun _ => False)) (fun _ _ h => h)
          have hI0 : WrI w F Ro w5.heap.size b3 (fun k => k = b3 ∨ k = b3 + 1 ∨ k = bS ∨ k = bS + 1) db size bm g s q hist [] w5 := by
            have hcells5 : ∀ (j : Nat) u, (u8L q)[j]? = some u → w5.cell? ⟨g, 0 + j, none⟩ = some u := fun j u hu => (hb5.cell (p := ⟨g, 0 + j, none⟩) (hbS ▸ World.block_lt_of_cell? w4 _ (hcl4 j u hu))).trans (hcl4 j u hu)
            have hD5 := HD4.out.chg (F' := fun k => F k ∨ w2.heap.size ≤ k ∧ k < w3.heap.size) (Ro' := fun k => Ro k ∨ w1.heap.size ≤ k ∧ k < w2.heap.size) hc45 (fun _ _ h => h) (fun _ _ h => h)
            have hsz5 := hb5.size
            have hD6 := hD5.ro (Ro' := fun k => (Ro k ∨ w1.heap.size ≤ k ∧ k < w2.heap.size) ∨ (q.length ≠ 0 ∧ k = g)) (fun _ h => .inl h) (fun k h => by
              rcases h with h | ⟨h, rfl⟩
              · exact hD5.ltR k h
              · have := hg4 h; omega) (fun k h hf => by
              rcases h with h | ⟨h, rfl⟩
              · exact hD5.off k h hf
              · have h7 := hg4 h
                rcases hf with hf | hf
                · exact nF.out k (by omega) hf
                · omega)
            refine ⟨⟨_, _, _, _, _, WrD.of (B := w5.heap.size) (b3 := b3) (F := F) (Ro := Ro) (X := fun k => k = b3 ∨ k = b3 + 1 ∨ k = bS ∨ k = bS + 1) (g := g) (q := q) (by rw [histP_nil]; exact hD6) (by omega) ?_ ?_ ?_ ?_ hcells5⟩, hc45.cell (p := ⟨b3, 0, none⟩) (fun h => h) t3, hc45.cell (p := ⟨b3 + 1, 0, none⟩) (fun h => h) t4, hcells5, HC3.out.trans hc45 (fun _ _ h => h.elim), Nat.le_refl _⟩
            · intro k hk
              rcases hk with hk | hk
              · exact .inl hk
              · exact .inr (by omega)
            · intro k hk
              rcases hk with (hk | hk) | ⟨hk, rfl⟩
              · exact .inl hk
              · exact .inr (by omega)
              · have := hg4 hk; exact .inr (by omega)
            · intro k hk hf
              rcases hf with hf | hf
              · exact nF.out k (by omega) hf
              · omega
            · exact fun hq0 => .inr ⟨hq0, rfl⟩
          rw [hw5, hbS]
          have HI0 := Lib.hid hI0
          clear hI0 hc45 hb5 hcl4
          refine (wpIn_wide (n := 3)).1 ?_
          refine wpIn_rangeFunc_ownG (n := 3) rfl (by decide) (gf := 30) (lb := #[.pointer (some ⟨bS, 0, none⟩), .pointer (some ⟨bS + 1, 0, none⟩)]) rfl trivial (enters_of Try.func30 (by kernel_rfl) rfl)
            (chunk_stops Fence.wide _ trivial rfl (by decide) bS (bS + 1) g 0 q.length c4' A4 hA4 (by omega) hc4a hc4b w5 cS cN) (fun h1 h2 => h1.trans h2)
            (fun W l o o' hl ho h1 h2 => ⟨World.putObj_heap_other (by omega), World.putObj_heap_other (by omega)⟩) (Below.refl _ _) (fun _ => rfl)
            (WrI w F Ro w5.heap.size b3 (fun k => k = b3 ∨ k = b3 + 1 ∨ k = bS ∨ k = bS + 1) db size bm g s q hist) (fun _ _ _ => False)
            (WrI.own (by omega)) (fun _ _ _ _ _ hs _ _ => hs) HI0.out ?_ ?_ ?_ ?_ ?_
          rotate_left
          · intro l x W K hK
            simp only [encP]
            gi_wp2
            exact hK
          · rintro l pre x W hI hlen
            obtain ⟨F1, Ro1, es1, hv1, fs1, hd⟩ := hI.ex
            have i3 := hI.c3
            have i4 := hI.c4
            have hlx := x.2
            have hpl := histP_length hist s q pre
            have hel := hd.disk.len_le
            have hus := hd.disk.used_le
            have hbeh := behind_any s (pieceAt q x.1) g (x.1 * 512) (min 512 (q.length - x.1 * 512)) W.drew Ro1 (nameB_le hb) (by rw [pieceAt_length]; omega) (hd.inG (by omega)) (piece_cells hI.cg)
            rw [pieceAt_length] at hbeh
            have hmx : Try.prog.follows .mixedOrders = true := by kernel_rfl
            have HHD := Lib.hid hd
            have HHI := Lib.hid hI
            clear hd hI
            gi_wp2
            gi_region_with_o (first
              | (refine ⟨trivial, ?_⟩; gi_at_call 24; refine (CallsIn.inRound l (callsIn_wide.2 hbeh)).mono ?_; rintro e W2 ⟨f, rfl, hra, hbl⟩; have hcW2 := Lib.hid (((Chg.refl W (fun _ => False)).drew).trans (Chg.below hbl (fun _ => False)) (fun _ _ h => h)); have j3 := hcW2.out.cell (p := ⟨b3, 0, none⟩) (fun h => h) i3)
              | (refine ⟨trivial, ?_⟩; gi_at_call 19; have hRA := wr_raw HHD.out hra hbl (by omega); refine (CallsIn.inRound l (callsIn_wide.2 hRA)).mono ?_; rintro e W3 ⟨⟨v, rfl⟩, es3, hv3, hD3, hc3⟩))
            all_goals gi_wp2
            all_goals (try go_bits)
            all_goals (
              have hn := wr_next HHI.out HHD.out hcW2.out hc3 (HHD.out.off b3 (.inl rfl)) (HHD.out.off (b3 + 1) (.inr (.inl rfl))) (by omega) (by omega) (fun k hk => by omega) hb3 hD3
              exact ⟨hn.1, ⟨hn.2.1 bS (.inr (.inr (.inl rfl))), hn.2.1 (bS + 1) (.inr (.inr (.inr rfl)))⟩, hn.2.2⟩)
          · rintro D ys W hD ⟨k, rfl, hk⟩ hI hK
            go_wp2
            refine ⟨by simp, .inl ⟨_, _, rfl, run_takeDeferred hK, ?_⟩⟩
            refine ⟨_, results_tmp rfl _ _ _, ?_⟩
            have hI2 := WrI.own (by omega) _ _ _ _ hI (grownBy_putObj' W D (.deferred none)) (fun r e => by cases e; exact ⟨hD, _, hK, rfl⟩)
            obtain ⟨F1, Ro1, es1, hv1, fs1, hd⟩ := hI2.ex
            refine HR.out _ _ ⟨by rw [hwe]; rfl, F1, Ro1, es1, hv1, fs1, ?_, fun k hk => ?_, fun k hk => ?_, hI2.chg⟩
            · have e1 : hist ++ rawsW (fsOf es) size s q = histP hist s q (uptoP q.length k) := by
                unfold rawsW histP
                rw [hwe, if_pos rfl, uptoP_all hk]
                simp
              rw [e1]
              exact hd.disk
            · rw [hb3]; exact hd.inF k hk
            · rw [hb3]; exact hd.inR k hk
          · rintro D c pre W _ _ h _
            exact h.elim
      | some o =>
        rw [hg] at hle hlc hwe
        simp only [Option.getD_some, Option.isSome_some] at hle hlc hwe ⊢
        clear hful
        go_wp2
        refine wp_region_held_drew (S := (fun w' => w'.cell? ⟨b3, 0, none⟩ = some (.pointer (some ⟨db, 0, none⟩)) ∧ w'.cell? ⟨b3 + 1, 0, none⟩ = some (.string s) ∧ w'.cell? ⟨db, 0, none⟩ = some (.int .i64 (size : Int)) ∧ w'.cell? ⟨db, 1, none⟩ = some (.int .i64 (usedB (fsOf es) : Int)))) (by kernel_rfl) ?_ (fun hHeld0 => ?_)
        · (try dsimp only)
          exact ⟨q3, q4, p0, p1⟩
        refine wpAnyH_take (i := 0) (oi := ⟨some 35, _, _, _, _, _⟩) (v := ?_) rfl (by kernel_rfl) (by kernel_rfl) (by kernel_rfl) (fun _ _ _ h => h) (Or.inl ⟨by kernel_rfl, ?_⟩) (by assumption) ?_
        rotate_left
        · (intro w hSw; (try dsimp only at hSw); go_simp; (first | done | with_reducible rfl))
        (try simp only [Act.put, List.setIfInBounds_toArray, List.set_cons_zero, List.set_cons_succ])
        refine wpAnyH_take (i := 1) (oi := ⟨some 36, _, _, _, _, _⟩) (v := ?_) rfl (by kernel_rfl) (by kernel_rfl) (by kernel_rfl) (fun _ _ _ h => h) (Or.inl ⟨by kernel_rfl, ?_⟩) (by assumption) ?_
        rotate_left
        · (intro w hSw; (try dsimp only at hSw); go_simp; (first | done | with_reducible rfl))
        (try simp only [Act.put, List.setIfInBounds_toArray, List.set_cons_zero, List.set_cons_succ])
        refine wpAnyH_take (i := 2) (oi := ⟨some 37, _, _, _, _, _⟩) (v := ?_) rfl (by kernel_rfl) (by kernel_rfl) (by kernel_rfl) (fun _ _ _ h => h) (Or.inl ⟨by kernel_rfl, ?_⟩) (by assumption) ?_
        rotate_left
        · (intro w hSw; (try dsimp only at hSw); go_simp; (first | done | with_reducible rfl))
        (try simp only [Act.put, List.setIfInBounds_toArray, List.set_cons_zero, List.set_cons_succ])
        refine wpAnyH_take (i := 3) (oi := ⟨some 38, _, _, _, _, _⟩) (v := ?_) rfl (by kernel_rfl) (by kernel_rfl) (by kernel_rfl) (fun _ _ _ h => h) (Or.inl ⟨by kernel_rfl, ?_⟩) (by assumption) ?_
        rotate_left
        · (intro w hSw; (try dsimp only at hSw); go_simp; (first | done | with_reducible rfl))
        (try simp only [Act.put, List.setIfInBounds_toArray, List.set_cons_zero, List.set_cons_succ])
        refine wpAnyH_take (i := 4) (oi := ⟨some 39, _, _, _, _, _⟩) (v := ?_) rfl (by kernel_rfl) (by kernel_rfl) (by kernel_rfl) (fun _ _ _ h => h) (Or.inl ⟨by kernel_rfl, ?_⟩) (by assumption) ?_
        rotate_left
        · (intro w hSw; (try dsimp only at hSw); go_simp; (first | done | with_reducible rfl))
        (try simp only [Act.put, List.setIfInBounds_toArray, List.set_cons_zero, List.set_cons_succ])
        refine wpAnyH_take (i := 5) (oi := ⟨some 40, _, _, _, _, _⟩) (v := ?_) rfl (by kernel_rfl) (by kernel_rfl) (by kernel_rfl) (fun _ _ _ h => h) (Or.inl ⟨by kernel_rfl, ?_⟩) (by assumption) ?_
        rotate_left
        · (intro w hSw; (try dsimp only at hSw); go_simp; (first | done | with_reducible rfl))
        (try simp only [Act.put, List.setIfInBounds_toArray, List.set_cons_zero, List.set_cons_succ])
        refine wpAnyH_take (i := 6) (oi := ⟨some 41, _, _, _, _, _⟩) (v := ?_) rfl (by kernel_rfl) (by kernel_rfl) (by kernel_rfl) (fun _ _ _ h => h) (Or.inl ⟨by kernel_rfl, ?_⟩) (by assumption) ?_
        rotate_left
        · (intro w hSw; (try dsimp only at hSw); go_simp; (first | done | with_reducible rfl))
        (try simp only [Act.put, List.setIfInBounds_toArray, List.set_cons_zero, List.set_cons_succ])
        refine wpAnyH_take (i := 7) (oi := ⟨some 42, _, _, _, _, _⟩) (v := ?_) rfl (by kernel_rfl) (by kernel_rfl) (by kernel_rfl) (fun _ _ _ h => h) (Or.inl ⟨by kernel_rfl, ?_⟩) (by assumption) ?_
        rotate_left
        · (intro w hSw; (try dsimp only at hSw); go_simp; (first | done | with_reducible rfl))
        (try simp only [Act.put, List.setIfInBounds_toArray, List.set_cons_zero, List.set_cons_succ])
        refine wpAnyH_take (i := 8) (oi := ⟨some 43, _, _, _, _, _⟩) (v := ?_) rfl (by kernel_rfl) (by kernel_rfl) (by kernel_rfl) (fun _ _ _ h => h) (Or.inl ⟨by kernel_rfl, ?_⟩) (by assumption) ?_
        rotate_left
        · (intro w hSw; (try dsimp only at hSw); go_simp; (first | done | with_reducible rfl))
        (try simp only [Act.put, List.setIfInBounds_toArray, List.set_cons_zero, List.set_cons_succ])
        refine wpAnyH_take (i := 9) (oi := ⟨some 44, _, _, _, _, _⟩) (v := ?_) rfl (by kernel_rfl) (by kernel_rfl) (by kernel_rfl) (fun _ _ _ h => h) (Or.inl ⟨by kernel_rfl, ?_⟩) (by assumption) ?_
        rotate_left
        · (intro w hSw; (try dsimp only at hSw); go_simp; (first | done | with_reducible rfl))
        (try simp only [Act.put, List.setIfInBounds_toArray, List.set_cons_zero, List.set_cons_succ])
        refine wpAnyH_take (i := 10) (oi := ⟨some 45, _, _, _, _, _⟩) (v := ?_) rfl (by kernel_rfl) (by kernel_rfl) (by kernel_rfl) (fun _ _ _ h => h) (Or.inl ⟨by kernel_rfl, ?_⟩) (by assumption) ?_
        rotate_left
        · (intro w hSw; (try dsimp only at hSw); go_simp; (first | done | with_reducible rfl))
        (try simp only [Act.put, List.setIfInBounds_toArray, List.set_cons_zero, List.set_cons_succ])
        refine wpAnyH_take (i := 11) (oi := ⟨some 46, _, _, _, _, _⟩) (v := ?_) rfl (by kernel_rfl) (by kernel_rfl) (by kernel_rfl) (fun _ _ _ h => h) (Or.inl ⟨by kernel_rfl, ?_⟩) (by assumption) ?_
        rotate_left
        · (intro w hSw; (try dsimp only at hSw); go_simp; (first | done | with_reducible rfl))
        (try simp only [Act.put, List.setIfInBounds_toArray, List.set_cons_zero, List.set_cons_succ])
        refine wpAnyH_take (i := 12) (oi := ⟨some 47, _, _, _, _, _⟩) (v := ?_) rfl (by kernel_rfl) (by kernel_rfl) (by kernel_rfl) (fun _ _ _ h => h) (Or.inl ⟨by kernel_rfl, ?_⟩) (by assumption) ?_
        rotate_left
        · (intro w hSw; (try dsimp only at hSw); go_simp; (first | done | with_reducible rfl))
        (try simp only [Act.put, List.setIfInBounds_toArray, List.set_cons_zero, List.set_cons_succ])
        refine wpAnyH_take (i := 13) (oi := ⟨some 48, _, _, _, _, _⟩) (v := ?_) rfl (by kernel_rfl) (by kernel_rfl) (by kernel_rfl) (fun _ _ _ h => h) (Or.inl ⟨by kernel_rfl, ?_⟩) (by assumption) ?_
        rotate_left
        · (intro w hSw; (try dsimp only at hSw); go_simp; (first | done | with_reducible rfl))
        (try simp only [Act.put, List.setIfInBounds_toArray, List.set_cons_zero, List.set_cons_succ])
        refine wpAnyH_take (i := 14) (oi := ⟨some 49, _, _, _, _, _⟩) (v := ?_) rfl (by kernel_rfl) (by kernel_rfl) (by kernel_rfl) (fun _ _ _ h => h) (Or.inl ⟨by kernel_rfl, ?_⟩) (by assumption) ?_
        rotate_left
        · (intro w hSw; (try dsimp only at hSw); go_simp; (first | done | with_reducible rfl))
        (try simp only [Act.put, List.setIfInBounds_toArray, List.set_cons_zero, List.set_cons_succ])
        refine wpAnyH_done (by kernel_rfl) ?_ _
        obtain ⟨r3, r4, r0, r1⟩ := hHeld0
        have e1 : IntKind.i64.wrap (usedB (fsOf es) : Int) = (usedB (fsOf es) : Int) := IntWalk.i64_in _ (by omega)
        have e2 : ∀ m : Nat, m ≤ usedB (fsOf es) → IntKind.i64.wrap ((usedB (fsOf es) : Int) - (m : Int)) = (usedB (fsOf es) : Int) - (m : Int) := fun m hm => IntWalk.i64_in _ (by omega)
        have e3 : IntKind.i64.wrap ((size : Int) - (usedB (fsOf es) : Int)) = (size : Int) - (usedB (fsOf es) : Int) := IntWalk.i64_in _ (by omega)
        have e4 : ∀ m : Nat, m ≤ usedB (fsOf es) → IntKind.i64.wrap ((size : Int) - ((usedB (fsOf es) : Int) - (m : Int))) = (size : Int) - ((usedB (fsOf es) : Int) - (m : Int)) := fun m hm => IntWalk.i64_in _ (by omega)
        (try simp only [e1, e2 _ hle, e3, e4 _ hle])
        (try simp only [e1, e3])
        clear e1 e2 e3 e4
        rcases Nat.lt_or_ge (size + ((getB (fsOf es) s).getD []).length) (q.length + usedB (fsOf es)) with hbig | hbig
        · rw [if_pos (by rw [hg] at hbig; simp at hbig ⊢; omega)] at hwe
          rw [hg] at hbig
          simp at hbig
          go_wp2
          refine ⟨_, results_tmp rfl _ _ _, ?_⟩
          refine HR.out _ _ ⟨by rw [hwe]; rfl, ?_⟩
          unfold rawsW
          rw [hwe]
          exact HFL.out _ (Chg.refl _ _).drew.drew
        · rw [if_neg (by rw [hg] at hbig; simp at hbig ⊢; omega)] at hwe
          rw [hg] at hbig
          simp at hbig
          go_wp2_with fail
          refine wp_region_held_drew (S := (fun w' => w'.cell? ⟨b3, 0, none⟩ = some (.pointer (some ⟨db, 0, none⟩)) ∧ w'.cell? ⟨b3 + 1, 0, none⟩ = some (.string s))) (by kernel_rfl) ?_ (fun hHeld0 => ?_)
          · (try dsimp only)
            first | exact ⟨r3, r4⟩ | exact ⟨HCe.out.cell (p := ⟨b3, 0, none⟩) (fun h => h) r3, HCe.out.cell (p := ⟨b3 + 1, 0, none⟩) (fun h => h) r4⟩ | exact ⟨HCr.out.cell (p := ⟨b3, 0, none⟩) (nF.out _ (Nat.le_refl _)) r3, HCr.out.cell (p := ⟨b3 + 1, 0, none⟩) (nF.out _ (Nat.le_succ _)) r4⟩
          refine wpAnyH_take (i := 0) (oi := ⟨some 50, _, _, _, _, _⟩) (v := ?_) rfl (by kernel_rfl) (by kernel_rfl) (by kernel_rfl) (fun _ _ _ h => h) (Or.inl ⟨by kernel_rfl, ?_⟩) (by assumption) ?_
          rotate_left
          · (intro w hSw; (try dsimp only at hSw); go_simp; (first | done | with_reducible rfl))
          (try simp only [Act.put, List.setIfInBounds_toArray, List.set_cons_zero, List.set_cons_succ])
          refine wpAnyH_take (i := 1) (oi := ⟨some 51, _, _, _, _, _⟩) (v := ?_) rfl (by kernel_rfl) (by kernel_rfl) (by kernel_rfl) (fun _ _ _ h => h) (Or.inl ⟨by kernel_rfl, ?_⟩) (by assumption) ?_
          rotate_left
          · (intro w hSw; (try dsimp only at hSw); go_simp; (first | done | with_reducible rfl))
          (try simp only [Act.put, List.setIfInBounds_toArray, List.set_cons_zero, List.set_cons_succ])
          refine wpAnyH_ready (rs := [2]) (by kernel_rfl) (by simp) ?_
          refine AllReadyH.cons (o := ⟨some 52, _, _, _, _, _⟩) rfl (fun K hK => ?_) AllReadyH.nil
          go_simp
          refine (empty_any s _ (nameB_le hb)).mono ?_
          rintro e w2 ⟨f2, rfl, hra, hbl⟩
          have HCe := Lib.hid (Chg.below hbl (fun _ => False))
          refine hK.out _ _ ?_ (fun hHeld1 => ?_)
          · (try dsimp only)
            first | exact ⟨r3, r4⟩ | exact ⟨HCe.out.cell (p := ⟨b3, 0, none⟩) (fun h => h) r3, HCe.out.cell (p := ⟨b3 + 1, 0, none⟩) (fun h => h) r4⟩ | exact ⟨HCr.out.cell (p := ⟨b3, 0, none⟩) (nF.out _ (Nat.le_refl _)) r3, HCr.out.cell (p := ⟨b3 + 1, 0, none⟩) (nF.out _ (Nat.le_succ _)) r4⟩
          clear hK K hHeld0
          (try simp only [Act.put, List.setIfInBounds_toArray, List.set_cons_zero, List.set_cons_succ])
          refine wpAnyH_ready (rs := [3]) (by kernel_rfl) (by simp) ?_
          refine AllReadyH.cons (o := ⟨some 53, _, _, _, _, _⟩) rfl (fun K hK => ?_) AllReadyH.nil
          go_simp
          have hC2 : Chg _ w2 (fun _ => False) := ((Chg.refl w1 (fun _ => False)).drew.drew.drew).trans HCe.out (fun _ _ h => h)
          have hD2 := HH0.out.chg (F' := F) (Ro' := Ro) hC2 (fun _ _ h => h) (fun _ _ h => h)
          have hD2' := hD2.ro (Ro' := fun k => Ro k ∨ (w1.heap.size ≤ k ∧ k < w2.heap.size)) (fun _ h => .inl h) (fun k h => by
            rcases h with h | h
            · exact hD2.ltR k h
            · exact h.2) (fun k h hf => by
            rcases h with h | h
            · exact hD2.off k h hf
            · exact nF.out k (by omega) hf)
          refine (raw_any hD2' (hra.chg (Ro' := fun k => Ro k ∨ (w1.heap.size ≤ k ∧ k < w2.heap.size)) (Chg.refl w2 (fun _ => False)) (fun k h => .inr h) (fun _ _ h => h)) (by omega) (by omega) (by omega)).mono ?_
          rintro e w3 ⟨⟨v3, rfl⟩, es3, hv3, hD3, hcr⟩
          have HCr := Lib.hid ((HCe.out.mono (T := F) (fun _ _ h => h.elim)).trans hcr (fun _ _ h => h))
          have HD3 := Lib.hid hD3
          clear hD3 hD2 hD2' hcr
          refine hK.out _ _ ?_ (fun hHeld2 => ?_)
          · (try dsimp only)
            first | exact ⟨r3, r4⟩ | exact ⟨HCe.out.cell (p := ⟨b3, 0, none⟩) (fun h => h) r3, HCe.out.cell (p := ⟨b3 + 1, 0, none⟩) (fun h => h) r4⟩ | exact ⟨HCr.out.cell (p := ⟨b3, 0, none⟩) (nF.out _ (Nat.le_refl _)) r3, HCr.out.cell (p := ⟨b3 + 1, 0, none⟩) (nF.out _ (Nat.le_succ _)) r4⟩
          clear hK K hHeld1
          (try simp only [Act.put, List.setIfInBounds_toArray, List.set_cons_zero, List.set_cons_succ])
          refine wpAnyH_done (by kernel_rfl) ?_ _
          obtain ⟨t3, t4⟩ := hHeld2
          have HC3 := Lib.hid (((HC0.out.mono (T := F) (fun _ _ h => h.elim)).drew.drew.drew).trans HCr.out (fun _ _ h => h))
          have hsz2 : w1.heap.size ≤ w2.heap.size := hC2.size
          have hA3 := HA.out.chg HC3.out
          go_wp2_with (first
            | (go_at_call 23; refine (clone_all hA3 c (by omega)).mono ?_; rintro e w4 ⟨A4, c4', g, rfl, hc4a, hc4b, hA4, hg4, hcl4, hb4⟩)
            | (go_at_call 22; refine (chunk_any A4 q.length c4' _).mono ?_; rintro e w5 ⟨rfl, rfl⟩))
          have HD4 := Lib.hid HD3.out
          have hbm : bm < b3 := by have := HW.out.ltF _ HW.out.inBm; omega
          have HC4 := Lib.hid (HC3.out.trans (Chg.below hb4 (fun _ => False)) (fun _ _ h => h.elim))
          have hsz4 := hb4.size
          have hsz3 := HC3.out.size
          have hszr : w1.heap.size ≤ w3.heap.size := HCr.out.size
          obtain ⟨bS, hbS⟩ : ∃ bS, w4.heap.size = bS := ⟨_, rfl⟩
          obtain ⟨w5, hw5⟩ : ∃ w5, (w4.alloc (.cells #[.slice A4 q.length c4'] 30)).alloc (.cells #[.int .i64 512] 3) = w5 := ⟨_, rfl⟩
          have hb5 : Below bS w4 w5 := by rw [← hw5, ← hbS]; exact ((Below.refl _ w4).alloc (Nat.le_refl _) _).alloc (by simp) _
          have hs5 : w5.heap.size = bS + 2 := by rw [← hw5, ← hbS]; simp
          have cS : w5.cell? ⟨bS, 0, none⟩ = some (.slice A4 q.length c4') := by rw [← hw5, ← hbS]; exact ((Holds.new w4 _ _).alloc _).cell 0
          have cN : w5.cell? ⟨bS + 1, 0, none⟩ = some (.int .i64 512) := by rw [← hw5, ← hbS]; have := Holds.new (w4.alloc (.cells #[.slice A4 q.length c4'] 30)) 3 #[.int .i64 512]; rw [World.size_alloc] at this; exact this.cell 0
          have hc45 : Chg w3 w5 (fun _ => False) := (Chg.below hb4 (fun _ => False)).trans (Chg.below (hbS ▸ hb5) (fun _ => False)) (fun _ _ h => h)
          have hI0 : WrI w F Ro w5.heap.size b3 (fun k => k = b3 ∨ k = b3 + 1 ∨ k = bS ∨ k = bS + 1) db size bm g s q hist [] w5 := by
            have hcells5 : ∀ (j : Nat) u, (u8L q)[j]? = some u → w5.cell? ⟨g, 0 + j, none⟩ = some u := fun j u hu => (hb5.cell (p := ⟨g, 0 + j, none⟩) (hbS ▸ World.block_lt_of_cell? w4 _ (hcl4 j u hu))).trans (hcl4 j u hu)
            have hD5 := HD4.out.chg (F' := fun k => F k ∨ w2.heap.size ≤ k ∧ k < w3.heap.size) (Ro' := fun k => Ro k ∨ w1.heap.size ≤ k ∧ k < w2.heap.size) hc45 (fun _ _ h => h) (fun _ _ h => h)
            have hsz5 := hb5.size
            have hD6 := hD5.ro (Ro' := fun k => (Ro k ∨ w1.heap.size ≤ k ∧ k < w2.heap.size) ∨ (q.length ≠ 0 ∧ k = g)) (fun _ h => .inl h) (fun k h => by
              rcases h with h | ⟨h, rfl⟩
              · exact hD5.ltR k h
              · have := hg4 h; omega) (fun k h hf => by
              rcases h with h | ⟨h, rfl⟩
              · exact hD5.off k h hf
              · have h7 := hg4 h
                rcases hf with hf | hf
                · exact nF.out k (by omega) hf
                · omega)
            refine ⟨⟨_, _, _, _, _, WrD.of (B := w5.heap.size) (b3 := b3) (F := F) (Ro := Ro) (X := fun k => k = b3 ∨ k = b3 + 1 ∨ k = bS ∨ k = bS + 1) (g := g) (q := q) (by rw [histP_nil]; exact hD6) (by omega) ?_ ?_ ?_ ?_ hcells5⟩, hc45.cell (p := ⟨b3, 0, none⟩) (fun h => h) t3, hc45.cell (p := ⟨b3 + 1, 0, none⟩) (fun h => h) t4, hcells5, HC3.out.trans hc45 (fun _ _ h => h.elim), Nat.le_refl _⟩
            · intro k hk
              rcases hk with hk | hk
              · exact .inl hk
              · exact .inr (by omega)
            · intro k hk
              rcases hk with (hk | hk) | ⟨hk, rfl⟩
              · exact .inl hk
              · exact .inr (by omega)
              · have := hg4 hk; exact .inr (by omega)
            · intro k hk hf
              rcases hf with hf | hf
              · exact nF.out k (by omega) hf
              · omega
            · exact fun hq0 => .inr ⟨hq0, rfl⟩
          rw [hw5, hbS]
          have HI0 := Lib.hid hI0
          clear hI0 hc45 hb5 hcl4
          refine (wpIn_wide (n := 3)).1 ?_
          refine wpIn_rangeFunc_ownG (n := 3) rfl (by decide) (gf := 30) (lb := #[.pointer (some ⟨bS, 0, none⟩), .pointer (some ⟨bS + 1, 0, none⟩)]) rfl trivial (enters_of Try.func30 (by kernel_rfl) rfl)
            (chunk_stops Fence.wide _ trivial rfl (by decide) bS (bS + 1) g 0 q.length c4' A4 hA4 (by omega) hc4a hc4b w5 cS cN) (fun h1 h2 => h1.trans h2)
            (fun W l o o' hl ho h1 h2 => ⟨World.putObj_heap_other (by omega), World.putObj_heap_other (by omega)⟩) (Below.refl _ _) (fun _ => rfl)
            (WrI w F Ro w5.heap.size b3 (fun k => k = b3 ∨ k = b3 + 1 ∨ k = bS ∨ k = bS + 1) db size bm g s q hist) (fun _ _ _ => False)
            (WrI.own (by omega)) (fun _ _ _ _ _ hs _ _ => hs) HI0.out ?_ ?_ ?_ ?_ ?_
          rotate_left
          · intro l x W K hK
            simp only [encP]
            gi_wp2
            exact hK
          · rintro l pre x W hI hlen
            obtain ⟨F1, Ro1, es1, hv1, fs1, hd⟩ := hI.ex
            have i3 := hI.c3
            have i4 := hI.c4
            have hlx := x.2
            have hpl := histP_length hist s q pre
            have hel := hd.disk.len_le
            have hus := hd.disk.used_le
            have hbeh := behind_any s (pieceAt q x.1) g (x.1 * 512) (min 512 (q.length - x.1 * 512)) W.drew Ro1 (nameB_le hb) (by rw [pieceAt_length]; omega) (hd.inG (by omega)) (piece_cells hI.cg)
            rw [pieceAt_length] at hbeh
            have hmx : Try.prog.follows .mixedOrders = true := by kernel_rfl
            have HHD := Lib.hid hd
            have HHI := Lib.hid hI
            clear hd hI
            gi_wp2
            gi_region_with_o (first
              | (refine ⟨trivial, ?_⟩; gi_at_call 24; refine (CallsIn.inRound l (callsIn_wide.2 hbeh)).mono ?_; rintro e W2 ⟨f, rfl, hra, hbl⟩; have hcW2 := Lib.hid (((Chg.refl W (fun _ => False)).drew).trans (Chg.below hbl (fun _ => False)) (fun _ _ h => h)); have j3 := hcW2.out.cell (p := ⟨b3, 0, none⟩) (fun h => h) i3)
              | (refine ⟨trivial, ?_⟩; gi_at_call 19; have hRA := wr_raw HHD.out hra hbl (by omega); refine (CallsIn.inRound l (callsIn_wide.2 hRA)).mono ?_; rintro e W3 ⟨⟨v, rfl⟩, es3, hv3, hD3, hc3⟩))
            all_goals gi_wp2
            all_goals (try go_bits)
            all_goals (
              have hn := wr_next HHI.out HHD.out hcW2.out hc3 (HHD.out.off b3 (.inl rfl)) (HHD.out.off (b3 + 1) (.inr (.inl rfl))) (by omega) (by omega) (fun k hk => by omega) hb3 hD3
              exact ⟨hn.1, ⟨hn.2.1 bS (.inr (.inr (.inl rfl))), hn.2.1 (bS + 1) (.inr (.inr (.inr rfl)))⟩, hn.2.2⟩)
          · rintro D ys W hD ⟨k, rfl, hk⟩ hI hK
            go_wp2
            refine ⟨by simp, .inl ⟨_, _, rfl, run_takeDeferred hK, ?_⟩⟩
            refine ⟨_, results_tmp rfl _ _ _, ?_⟩
            have hI2 := WrI.own (by omega) _ _ _ _ hI (grownBy_putObj' W D (.deferred none)) (fun r e => by cases e; exact ⟨hD, _, hK, rfl⟩)
            obtain ⟨F1, Ro1, es1, hv1, fs1, hd⟩ := hI2.ex
            refine HR.out _ _ ⟨by rw [hwe]; rfl, F1, Ro1, es1, hv1, fs1, ?_, fun k hk => ?_, fun k hk => ?_, hI2.chg⟩
            · have e1 : hist ++ rawsW (fsOf es) size s q = histP hist s q (uptoP q.length k) := by
                unfold rawsW histP
                rw [hwe, if_pos rfl, uptoP_all hk]
                simp
              rw [e1]
              exact hd.disk
            · rw [hb3]; exact hd.inF k hk
            · rw [hb3]; exact hd.inR k hk
          · rintro D c pre W _ _ h _
            exact h.elim
end Go.Proofs.Ytggnkpblfmjbcaa
