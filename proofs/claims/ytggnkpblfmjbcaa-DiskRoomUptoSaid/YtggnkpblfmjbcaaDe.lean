/-
  Walks: a file is made empty; a file is removed.
-/
import Derived.Test.YtggnkpblfmjbcaaDs
namespace Go.Proofs.Ytggnkpblfmjbcaa
open Go.RowKit Go.Bd
/-- where a file's bytes lie, and how many -/
theorem valF_form {w : World} {es : List Fe} (hr : ∀ e ∈ es, w.ownsRow 0 5 1 e.v e.c.length (u8L e.c)) (s : ByteArray) :
    ∃ A c, valF es s = .slice A ((getB (fsOf es) s).getD []).length c ∧ ((getB (fsOf es) s).getD []).length ≤ c := by
  rw [getB_of]
  unfold valF
  cases he : findF es s with
  | none => exact ⟨none, 0, rfl, Nat.le_refl _⟩
  | some e =>
    have hm : e ∈ es := List.mem_of_find?_eq_some he
    rcases (hr e hm).2 with ⟨hv, hn⟩ | ⟨g, cap, cur, hv, _, _, hc, _⟩
    · refine ⟨none, 0, ?_, ?_⟩
      · simp [hv, hn]
      · simp [hn]
    · exact ⟨some ⟨g, 0, none⟩, cap, by simp [hv], by simpa using hc⟩
theorem zero_bytes (w : World) : (zeroValue 30).run Try.prog w = .ok (.slice none 0 0) w := by kernel_rfl
theorem str_key : Try.prog.underlying 9 = some .string := by kernel_rfl
theorem map_under : Try.prog.underlying 45 = some (.map 9 30) := by kernel_rfl
set_option maxRecDepth 100000 in
set_option maxHeartbeats 2000000 in
theorem empty1_any {w : World} {F Ro : Nat → Prop} {db size bm b : Nat} {es : List Fe} {hist : List Raw} {hv : Value} {fs : List Value} {s : ByteArray} {rs : List Raw} (h : DiskAt w F Ro db size es hist bm hv fs rs) (hb : Ro b) (hs : Holds w b 9 #[.string s]) (hn : s.size ≤ 80) (he : es.length < 1000000) (hu : usedB (fsOf es) ≤ 1000000000000) :
    Calls Try.prog 29 #[.pointer (some ⟨db, 0, none⟩), .pointer (some ⟨b, 0, none⟩)] w fun e w' => (∃ v, e = .returned v) ∧ Holds w' db 48 #[.int .i64 (size : Int), .int .i64 ((usedB (fsOf es) - ((getB (fsOf es) s).getD []).length : Nat) : Int), .map (some bm), hv] ∧
      FsMap w' Try.prog 9 bm (putF es ⟨s, .slice none 0 0, []⟩) ∧ Chg w w' (fun k => k = db ∨ k = bm) := by
  obtain ⟨A, c, hval, hlc⟩ := valF_form h.rows s
  have hle : ((getB (fsOf es) s).getD []).length ≤ usedB (fsOf es) := by
    have := used_del (by rw [h.says]; exact uniq_runR _ : UniqB (fsOf es)) s
    omega
  have hdb : db ≠ b := fun e => h.off b hb (e ▸ h.inDb)
  have hbm : bm ≠ b := fun e => h.off b hb (e ▸ h.inBm)
  have hbd : ¬ db = bm := h.offDb.1
  have HH := h.hold
  have HM := h.map
  have HU := h.uniq
  clear h hb
  generalize ((getB (fsOf es) s).getD []).length = m at hval hlc hle ⊢
  generalize usedB (fsOf es) = u at hle hu HH ⊢
  have p1 : w.cell? ⟨db, 1, none⟩ = some (.int .i64 (u : Int)) := HH.cell 1
  have p2 : w.cell? ⟨db, 2, none⟩ = some (.map (some bm)) := HH.cell 2
  have pf : w.frozen? ⟨db, 1, none⟩ = false := HH.free 1
  have pb : w.cell? ⟨b, 0, none⟩ = some (.string s) := hs.cell 0
  have e1 : IntKind.i64.wrap ((u : Int) - (m : Int)) = ((u - m : Nat) : Int) := by
    rw [← Int.ofNat_sub hle]; exact IntWalk.i64_in _ (by omega)
  have HHH := Lib.hid HH
  have HMM := Lib.hid HM
  have HUU := Lib.hid HU
  have HV := Lib.hid hval
  have HS := Lib.hid hs
  clear HH HM HU hval hs
  go_enter Try.func29, Try.ntmps29
  go_wp2_with fail
  refine wp_region_held_drew (S := (fun w' => w'.cell? ⟨db, 2, none⟩ = some (.map (some bm)) ∧ w'.frozen? ⟨db, 1, none⟩ = false ∧ w'.cell? ⟨b, 0, none⟩ = some (.string s) ∧ FsMap w' Try.prog 9 bm es)) (by kernel_rfl) ?_ (fun hHeld0 => ?_)
  · (try dsimp only)
    first | exact ⟨p2, pf, pb, HMM.out.eq rfl⟩ | exact ⟨cell_off (by decide) _ p2, (World.frozen?_setCell _ _ _ _).trans pf, cell_far hdb _ pb, HMM.out.chg (Chg.set w ⟨db, 1, none⟩ (.int .i64 ((u - m : Nat) : Int))).drew (fun e => hbd e.symm)⟩
  refine wpAnyH_take (i := 0) (oi := ⟨some 3, _, _, _, _, _⟩) (v := ?_) rfl (by kernel_rfl) (by kernel_rfl) (by kernel_rfl) (fun _ _ _ h => h) (Or.inl ⟨by kernel_rfl, ?_⟩) (by assumption) ?_
  rotate_left
  · (intro w hSw; (try dsimp only at hSw); go_simp; (first | done | with_reducible rfl))
  (try simp only [Act.put, List.setIfInBounds_toArray, List.set_cons_zero, List.set_cons_succ])
  refine wpAnyH_take (i := 1) (oi := ⟨some 4, _, _, _, _, _⟩) (v := ?_) rfl (by kernel_rfl) (by kernel_rfl) (by kernel_rfl) (fun _ _ _ h => h) (Or.inl ⟨by kernel_rfl, ?_⟩) (by assumption) ?_
  rotate_left
  · (intro w hSw; (try dsimp only at hSw); go_simp; (first | done | with_reducible rfl))
  (try simp only [Act.put, List.setIfInBounds_toArray, List.set_cons_zero, List.set_cons_succ])
  refine wpAnyH_take (i := 2) (oi := ⟨some 5, _, _, _, _, _⟩) (v := ?_) rfl (by kernel_rfl) (by kernel_rfl) (by kernel_rfl) (fun _ _ _ h => h) (Or.inl ⟨by kernel_rfl, ?_⟩) (by assumption) ?_
  rotate_left
  · (intro w hSw; (try dsimp only at hSw); go_simp; (first | done | with_reducible rfl))
  (try simp only [Act.put, List.setIfInBounds_toArray, List.set_cons_zero, List.set_cons_succ])
  refine wpAnyH_take (i := 4) (oi := ⟨some 7, _, _, _, _, _⟩) (v := ?_) rfl (by kernel_rfl) (by kernel_rfl) (by kernel_rfl) (fun _ _ _ h => h) (Or.inl ⟨by kernel_rfl, ?_⟩) (by assumption) ?_
  rotate_left
  · (intro w hSw; (try dsimp only at hSw); go_simp; (first | done | with_reducible rfl))
  (try simp only [Act.put, List.setIfInBounds_toArray, List.set_cons_zero, List.set_cons_succ])
  refine wpAnyH_take (i := 5) (oi := ⟨some 8, _, _, _, _, _⟩) (v := ?_) rfl (by kernel_rfl) (by kernel_rfl) (by kernel_rfl) (fun _ _ _ h => h) (Or.inl ⟨by kernel_rfl, ?_⟩) (by assumption) ?_
  rotate_left
  · (intro w hSw; (try dsimp only at hSw); go_simp; (first | done | with_reducible rfl))
  (try simp only [Act.put, List.setIfInBounds_toArray, List.set_cons_zero, List.set_cons_succ])
  refine wpAnyH_take (i := 6) (oi := ⟨some 9, _, _, _, _, _⟩) (v := ?_) rfl (by kernel_rfl) (by kernel_rfl) (by kernel_rfl) (fun _ _ _ h => h) (Or.inl ⟨by kernel_rfl, ?_⟩) (by assumption) ?_
  rotate_left
  · (intro w hSw; (try dsimp only at hSw); go_simp; (first | done | with_reducible rfl))
  (try simp only [Act.put, List.setIfInBounds_toArray, List.set_cons_zero, List.set_cons_succ])
  refine wpAnyH_take (i := 7) (oi := ⟨some 10, _, _, _, _, _⟩) (v := ?_) rfl (by kernel_rfl) (by kernel_rfl) (by kernel_rfl) (fun _ _ _ h => h) (Or.inl ⟨by kernel_rfl, ?_⟩) (by assumption) ?_
  rotate_left
  · (intro w hSw; (try dsimp only at hSw); go_simp; (first | done | with_reducible rfl))
  (try simp only [Act.put, List.setIfInBounds_toArray, List.set_cons_zero, List.set_cons_succ])
  refine wpAnyH_take (i := 8) (oi := ⟨some 11, _, _, _, _, _⟩) (v := ?_) rfl (by kernel_rfl) (by kernel_rfl) (by kernel_rfl) (fun _ _ _ h => h) (Or.inl ⟨by kernel_rfl, ?_⟩) (by assumption) ?_
  rotate_left
  · (intro w hSw; (try dsimp only at hSw); go_simp; (first | done | with_reducible rfl))
  (try simp only [Act.put, List.setIfInBounds_toArray, List.set_cons_zero, List.set_cons_succ])
  refine wpAnyH_take (i := 9) (oi := ⟨some 12, _, _, _, _, _⟩) (v := (.slice A m c)) rfl (by kernel_rfl) (by kernel_rfl) (by kernel_rfl) (fun _ _ _ h => h) (Or.inl ⟨by kernel_rfl, ?_⟩) (by assumption) ?_
  · intro w hSw
    have hl := hSw.2.2.2.look (s := s) str_key map_under (zero_bytes w) (by simp only [maxLen] <;> omega)
    rw [HV.out] at hl
    go_simp
  (try simp only [Act.put, List.setIfInBounds_toArray, List.set_cons_zero, List.set_cons_succ])
  refine wpAnyH_take (i := 10) (oi := ⟨some 13, _, _, _, _, _⟩) (v := ?_) rfl (by kernel_rfl) (by kernel_rfl) (by kernel_rfl) (fun _ _ _ h => h) (Or.inl ⟨by kernel_rfl, ?_⟩) (by assumption) ?_
  rotate_left
  · (intro w hSw; (try dsimp only at hSw); go_simp; (first | done | with_reducible rfl))
  (try simp only [Act.put, List.setIfInBounds_toArray, List.set_cons_zero, List.set_cons_succ])
  refine wpAnyH_ready (rs := [3]) (by kernel_rfl) (by simp) ?_
  refine AllReadyH.cons (o := ⟨some 6, _, _, _, _, _⟩) rfl (fun K hK => ?_) AllReadyH.nil
  go_simp
  refine hK.out _ _ ?_ (fun hHeld1 => ?_)
  · (try dsimp only)
    first | exact ⟨p2, pf, pb, HMM.out.eq rfl⟩ | exact ⟨cell_off (by decide) _ p2, (World.frozen?_setCell _ _ _ _).trans pf, cell_far hdb _ pb, HMM.out.chg (Chg.set w ⟨db, 1, none⟩ (.int .i64 ((u - m : Nat) : Int))).drew (fun e => hbd e.symm)⟩
  clear hK K hHeld0
  (try simp only [Act.put, List.setIfInBounds_toArray, List.set_cons_zero, List.set_cons_succ])
  refine wpAnyH_take (i := 11) (oi := ⟨some 14, _, _, _, _, _⟩) (v := ?_) rfl (by kernel_rfl) (by kernel_rfl) (by kernel_rfl) (fun _ _ _ h => h) (Or.inl ⟨by kernel_rfl, ?_⟩) (by assumption) ?_
  rotate_left
  · (intro w hSw; (try dsimp only at hSw); go_simp; (first | done | with_reducible rfl))
  (try simp only [Act.put, List.setIfInBounds_toArray, List.set_cons_zero, List.set_cons_succ])
  refine wpAnyH_take (i := 12) (oi := ⟨some 15, _, _, _, _, _⟩) (v := ?_) rfl (by kernel_rfl) (by kernel_rfl) (by kernel_rfl) (fun _ _ _ h => h) (Or.inl ⟨by kernel_rfl, ?_⟩) (by assumption) ?_
  rotate_left
  · (intro w hSw; (try dsimp only at hSw); go_simp; (first | done | with_reducible rfl))
  (try simp only [Act.put, List.setIfInBounds_toArray, List.set_cons_zero, List.set_cons_succ])
  refine wpAnyH_take (i := 13) (oi := ⟨some 16, _, _, _, _, _⟩) (v := ?_) rfl (by kernel_rfl) (by kernel_rfl) (by kernel_rfl) (fun _ _ _ h => h) (Or.inl ⟨by kernel_rfl, ?_⟩) (by assumption) ?_
  rotate_left
  · (intro w hSw; (try dsimp only at hSw); go_simp; (first | done | with_reducible rfl))
  (try simp only [Act.put, List.setIfInBounds_toArray, List.set_cons_zero, List.set_cons_succ])
  refine wpAnyH_ready (rs := [14]) (by kernel_rfl) (by simp) ?_
  refine AllReadyH.cons rfl (fun K hK => ?_) AllReadyH.nil
  go_simp
  refine hK.out _ _ ?_ (fun hHeld2 => ?_)
  · (try dsimp only)
    first | exact ⟨p2, pf, pb, HMM.out.eq rfl⟩ | exact ⟨cell_off (by decide) _ p2, (World.frozen?_setCell _ _ _ _).trans pf, cell_far hdb _ pb, HMM.out.chg (Chg.set w ⟨db, 1, none⟩ (.int .i64 ((u - m : Nat) : Int))).drew (fun e => hbd e.symm)⟩
  clear hK K hHeld1
  (try simp only [Act.put, List.setIfInBounds_toArray, List.set_cons_zero, List.set_cons_succ])
  refine wpAnyH_done (by kernel_rfl) ?_ _
  obtain ⟨q2, qf, qb, hm1⟩ := hHeld2
  have HH1 := Lib.hid (HHH.out.set 1 (.int .i64 ((u - m : Nat) : Int)))
  have HC1 := Lib.hid ((Chg.set w ⟨db, 1, none⟩ (.int .i64 ((u - m : Nat) : Int))).drew)
  have HH2 : Hid (Holds (w.setCell ⟨db, 1, none⟩ (.int .i64 ((u - m : Nat) : Int))).drew db 48 #[.int .i64 (size : Int), .int .i64 ((u - m : Nat) : Int), .map (some bm), hv]) := HH1.out
  generalize (w.setCell ⟨db, 1, none⟩ (.int .i64 ((u - m : Nat) : Int))).drew = w1 at q2 qf qb hm1 HC1 HH2 ⊢
  clear HH1
  have HM1 := Lib.hid hm1
  clear hm1 qf
  go_wp2_with fail
  refine wp_region_held_drew (S := (fun w' => w'.cell? ⟨db, 2, none⟩ = some (.map (some bm)) ∧ w'.cell? ⟨b, 0, none⟩ = some (.string s))) (by kernel_rfl) ?_ (fun hHeld0 => ?_)
  · (try dsimp only)
    first | exact ⟨q2, qb⟩ | exact ⟨hc5.cell (p := ⟨db, 2, none⟩) hbd q2, hc5.cell (p := ⟨b, 0, none⟩) (fun e => hbm e.symm) qb⟩
  refine wpAnyH_take (i := 0) (oi := ⟨some 17, _, _, _, _, _⟩) (v := ?_) rfl (by kernel_rfl) (by kernel_rfl) (by kernel_rfl) (fun _ _ _ h => h) (Or.inl ⟨by kernel_rfl, ?_⟩) (by assumption) ?_
  rotate_left
  · (intro w hSw; (try dsimp only at hSw); go_simp; (first | done | with_reducible rfl))
  (try simp only [Act.put, List.setIfInBounds_toArray, List.set_cons_zero, List.set_cons_succ])
  refine wpAnyH_take (i := 1) (oi := ⟨some 18, _, _, _, _, _⟩) (v := ?_) rfl (by kernel_rfl) (by kernel_rfl) (by kernel_rfl) (fun _ _ _ h => h) (Or.inl ⟨by kernel_rfl, ?_⟩) (by assumption) ?_
  rotate_left
  · (intro w hSw; (try dsimp only at hSw); go_simp; (first | done | with_reducible rfl))
  (try simp only [Act.put, List.setIfInBounds_toArray, List.set_cons_zero, List.set_cons_succ])
  refine wpAnyH_take (i := 2) (oi := ⟨some 19, _, _, _, _, _⟩) (v := ?_) rfl (by kernel_rfl) (by kernel_rfl) (by kernel_rfl) (fun _ _ _ h => h) (Or.inl ⟨by kernel_rfl, ?_⟩) (by assumption) ?_
  rotate_left
  · (intro w hSw; (try dsimp only at hSw); go_simp; (first | done | with_reducible rfl))
  (try simp only [Act.put, List.setIfInBounds_toArray, List.set_cons_zero, List.set_cons_succ])
  refine wpAnyH_take (i := 3) (oi := ⟨some 20, _, _, _, _, _⟩) (v := ?_) rfl (by kernel_rfl) (by kernel_rfl) (by kernel_rfl) (fun _ _ _ h => h) (Or.inl ⟨by kernel_rfl, ?_⟩) (by assumption) ?_
  rotate_left
  · (intro w hSw; (try dsimp only at hSw); go_simp; (first | done | with_reducible rfl))
  (try simp only [Act.put, List.setIfInBounds_toArray, List.set_cons_zero, List.set_cons_succ])
  refine wpAnyH_take (i := 4) (oi := ⟨some 21, _, _, _, _, _⟩) (v := ?_) rfl (by kernel_rfl) (by kernel_rfl) (by kernel_rfl) (fun _ _ _ h => h) (Or.inl ⟨by kernel_rfl, ?_⟩) (by assumption) ?_
  rotate_left
  · (intro w hSw; (try dsimp only at hSw); go_simp; (first | done | with_reducible rfl))
  (try simp only [Act.put, List.setIfInBounds_toArray, List.set_cons_zero, List.set_cons_succ])
  refine wpAnyH_ready (rs := [5]) (by kernel_rfl) (by simp) ?_
  refine AllReadyH.cons rfl (fun K hK => ?_) AllReadyH.nil
  obtain ⟨w5, hr5, hm5, hc5, hz5⟩ := (HM1.out.eq (w' := w1.drew) rfl).store HUU.out str_key map_under (by simp only [maxLen]; omega) ⟨s, .slice none 0 0, []⟩ (by simp only [maxLen]; omega)
  go_simp
  refine hK.out _ _ ?_ (fun hHeld1 => ?_)
  · (try dsimp only)
    first | exact ⟨q2, qb⟩ | exact ⟨hc5.cell (p := ⟨db, 2, none⟩) hbd q2, hc5.cell (p := ⟨b, 0, none⟩) (fun e => hbm e.symm) qb⟩
  clear hK K hHeld0
  (try simp only [Act.put, List.setIfInBounds_toArray, List.set_cons_zero, List.set_cons_succ])
  refine wpAnyH_done (by kernel_rfl) ?_ _
  have HF5 := Lib.hid (And.intro hm5 hc5)
  clear hm5 hc5 hr5 hz5
  go_wp2_with fail
  go_end0
  exact ⟨⟨_, rfl⟩, HF5.out.2.holds hbd HH2.out, HF5.out.1, (HC1.out.mono (fun k _ h => Or.inl h)).drew.trans HF5.out.2 (fun k _ h => Or.inr h)⟩
set_option maxRecDepth 100000 in
set_option maxHeartbeats 2000000 in
theorem gone1_any {w : World} {F Ro : Nat → Prop} {db size bm b : Nat} {es : List Fe} {hist : List Raw} {hv : Value} {fs : List Value} {s : ByteArray} {rs : List Raw} (h : DiskAt w F Ro db size es hist bm hv fs rs) (hb : Ro b) (hs : Holds w b 9 #[.string s]) (hn : s.size ≤ 80) (he : es.length < 1000000) (hu : usedB (fsOf es) ≤ 1000000000000) :
    Calls Try.prog 28 #[.pointer (some ⟨db, 0, none⟩), .pointer (some ⟨b, 0, none⟩)] w fun e w' => (∃ v, e = .returned v) ∧ Holds w' db 48 #[.int .i64 (size : Int), .int .i64 ((usedB (fsOf es) - ((getB (fsOf es) s).getD []).length : Nat) : Int), .map (some bm), hv] ∧
      FsMap w' Try.prog 9 bm (delF es s) ∧ Chg w w' (fun k => k = db ∨ k = bm) := by
  obtain ⟨A, c, hval, hlc⟩ := valF_form h.rows s
  have hle : ((getB (fsOf es) s).getD []).length ≤ usedB (fsOf es) := by
    have := used_del (by rw [h.says]; exact uniq_runR _ : UniqB (fsOf es)) s
    omega
  have hdb : db ≠ b := fun e => h.off b hb (e ▸ h.inDb)
  have hbm : bm ≠ b := fun e => h.off b hb (e ▸ h.inBm)
  have hbd : ¬ db = bm := h.offDb.1
  have HH := h.hold
  have HM := h.map
  have HU := h.uniq
  clear h hb
  generalize ((getB (fsOf es) s).getD []).length = m at hval hlc hle ⊢
  generalize usedB (fsOf es) = u at hle hu HH ⊢
  have p1 : w.cell? ⟨db, 1, none⟩ = some (.int .i64 (u : Int)) := HH.cell 1
  have p2 : w.cell? ⟨db, 2, none⟩ = some (.map (some bm)) := HH.cell 2
  have pf : w.frozen? ⟨db, 1, none⟩ = false := HH.free 1
  have pb : w.cell? ⟨b, 0, none⟩ = some (.string s) := hs.cell 0
  have e1 : IntKind.i64.wrap ((u : Int) - (m : Int)) = ((u - m : Nat) : Int) := by
    rw [← Int.ofNat_sub hle]; exact IntWalk.i64_in _ (by omega)
  have HHH := Lib.hid HH
  have HMM := Lib.hid HM
  have HUU := Lib.hid HU
  have HV := Lib.hid hval
  have HS := Lib.hid hs
  clear HH HM HU hval hs
  go_enter Try.func28, Try.ntmps28
  go_wp2_with fail
  refine wp_region_held_drew (S := (fun w' => w'.cell? ⟨db, 2, none⟩ = some (.map (some bm)) ∧ w'.frozen? ⟨db, 1, none⟩ = false ∧ w'.cell? ⟨b, 0, none⟩ = some (.string s) ∧ FsMap w' Try.prog 9 bm es)) (by kernel_rfl) ?_ (fun hHeld0 => ?_)
  · (try dsimp only)
    first | exact ⟨p2, pf, pb, HMM.out.eq rfl⟩ | exact ⟨cell_off (by decide) _ p2, (World.frozen?_setCell _ _ _ _).trans pf, cell_far hdb _ pb, HMM.out.chg (Chg.set w ⟨db, 1, none⟩ (.int .i64 ((u - m : Nat) : Int))).drew (fun e => hbd e.symm)⟩
  refine wpAnyH_take (i := 0) (oi := ⟨some 3, _, _, _, _, _⟩) (v := ?_) rfl (by kernel_rfl) (by kernel_rfl) (by kernel_rfl) (fun _ _ _ h => h) (Or.inl ⟨by kernel_rfl, ?_⟩) (by assumption) ?_
  rotate_left
  · (intro w hSw; (try dsimp only at hSw); go_simp; (first | done | with_reducible rfl))
  (try simp only [Act.put, List.setIfInBounds_toArray, List.set_cons_zero, List.set_cons_succ])
  refine wpAnyH_take (i := 1) (oi := ⟨some 4, _, _, _, _, _⟩) (v := ?_) rfl (by kernel_rfl) (by kernel_rfl) (by kernel_rfl) (fun _ _ _ h => h) (Or.inl ⟨by kernel_rfl, ?_⟩) (by assumption) ?_
  rotate_left
  · (intro w hSw; (try dsimp only at hSw); go_simp; (first | done | with_reducible rfl))
  (try simp only [Act.put, List.setIfInBounds_toArray, List.set_cons_zero, List.set_cons_succ])
  refine wpAnyH_take (i := 2) (oi := ⟨some 5, _, _, _, _, _⟩) (v := ?_) rfl (by kernel_rfl) (by kernel_rfl) (by kernel_rfl) (fun _ _ _ h => h) (Or.inl ⟨by kernel_rfl, ?_⟩) (by assumption) ?_
  rotate_left
  · (intro w hSw; (try dsimp only at hSw); go_simp; (first | done | with_reducible rfl))
  (try simp only [Act.put, List.setIfInBounds_toArray, List.set_cons_zero, List.set_cons_succ])
  refine wpAnyH_take (i := 4) (oi := ⟨some 7, _, _, _, _, _⟩) (v := ?_) rfl (by kernel_rfl) (by kernel_rfl) (by kernel_rfl) (fun _ _ _ h => h) (Or.inl ⟨by kernel_rfl, ?_⟩) (by assumption) ?_
  rotate_left
  · (intro w hSw; (try dsimp only at hSw); go_simp; (first | done | with_reducible rfl))
  (try simp only [Act.put, List.setIfInBounds_toArray, List.set_cons_zero, List.set_cons_succ])
  refine wpAnyH_take (i := 5) (oi := ⟨some 8, _, _, _, _, _⟩) (v := ?_) rfl (by kernel_rfl) (by kernel_rfl) (by kernel_rfl) (fun _ _ _ h => h) (Or.inl ⟨by kernel_rfl, ?_⟩) (by assumption) ?_
  rotate_left
  · (intro w hSw; (try dsimp only at hSw); go_simp; (first | done | with_reducible rfl))
  (try simp only [Act.put, List.setIfInBounds_toArray, List.set_cons_zero, List.set_cons_succ])
  refine wpAnyH_take (i := 6) (oi := ⟨some 9, _, _, _, _, _⟩) (v := ?_) rfl (by kernel_rfl) (by kernel_rfl) (by kernel_rfl) (fun _ _ _ h => h) (Or.inl ⟨by kernel_rfl, ?_⟩) (by assumption) ?_
  rotate_left
  · (intro w hSw; (try dsimp only at hSw); go_simp; (first | done | with_reducible rfl))
  (try simp only [Act.put, List.setIfInBounds_toArray, List.set_cons_zero, List.set_cons_succ])
  refine wpAnyH_take (i := 7) (oi := ⟨some 10, _, _, _, _, _⟩) (v := ?_) rfl (by kernel_rfl) (by kernel_rfl) (by kernel_rfl) (fun _ _ _ h => h) (Or.inl ⟨by kernel_rfl, ?_⟩) (by assumption) ?_
  rotate_left
  · (intro w hSw; (try dsimp only at hSw); go_simp; (first | done | with_reducible rfl))
  (try simp only [Act.put, List.setIfInBounds_toArray, List.set_cons_zero, List.set_cons_succ])
  refine wpAnyH_take (i := 8) (oi := ⟨some 11, _, _, _, _, _⟩) (v := ?_) rfl (by kernel_rfl) (by kernel_rfl) (by kernel_rfl) (fun _ _ _ h => h) (Or.inl ⟨by kernel_rfl, ?_⟩) (by assumption) ?_
  rotate_left
  · (intro w hSw; (try dsimp only at hSw); go_simp; (first | done | with_reducible rfl))
  (try simp only [Act.put, List.setIfInBounds_toArray, List.set_cons_zero, List.set_cons_succ])
  refine wpAnyH_take (i := 9) (oi := ⟨some 12, _, _, _, _, _⟩) (v := (.slice A m c)) rfl (by kernel_rfl) (by kernel_rfl) (by kernel_rfl) (fun _ _ _ h => h) (Or.inl ⟨by kernel_rfl, ?_⟩) (by assumption) ?_
  · intro w hSw
    have hl := hSw.2.2.2.look (s := s) str_key map_under (zero_bytes w) (by simp only [maxLen] <;> omega)
    rw [HV.out] at hl
    go_simp
  (try simp only [Act.put, List.setIfInBounds_toArray, List.set_cons_zero, List.set_cons_succ])
  refine wpAnyH_take (i := 10) (oi := ⟨some 13, _, _, _, _, _⟩) (v := ?_) rfl (by kernel_rfl) (by kernel_rfl) (by kernel_rfl) (fun _ _ _ h => h) (Or.inl ⟨by kernel_rfl, ?_⟩) (by assumption) ?_
  rotate_left
  · (intro w hSw; (try dsimp only at hSw); go_simp; (first | done | with_reducible rfl))
  (try simp only [Act.put, List.setIfInBounds_toArray, List.set_cons_zero, List.set_cons_succ])
  refine wpAnyH_ready (rs := [3]) (by kernel_rfl) (by simp) ?_
  refine AllReadyH.cons (o := ⟨some 6, _, _, _, _, _⟩) rfl (fun K hK => ?_) AllReadyH.nil
  go_simp
  refine hK.out _ _ ?_ (fun hHeld1 => ?_)
  · (try dsimp only)
    first | exact ⟨p2, pf, pb, HMM.out.eq rfl⟩ | exact ⟨cell_off (by decide) _ p2, (World.frozen?_setCell _ _ _ _).trans pf, cell_far hdb _ pb, HMM.out.chg (Chg.set w ⟨db, 1, none⟩ (.int .i64 ((u - m : Nat) : Int))).drew (fun e => hbd e.symm)⟩
  clear hK K hHeld0
  (try simp only [Act.put, List.setIfInBounds_toArray, List.set_cons_zero, List.set_cons_succ])
  refine wpAnyH_take (i := 11) (oi := ⟨some 14, _, _, _, _, _⟩) (v := ?_) rfl (by kernel_rfl) (by kernel_rfl) (by kernel_rfl) (fun _ _ _ h => h) (Or.inl ⟨by kernel_rfl, ?_⟩) (by assumption) ?_
  rotate_left
  · (intro w hSw; (try dsimp only at hSw); go_simp; (first | done | with_reducible rfl))
  (try simp only [Act.put, List.setIfInBounds_toArray, List.set_cons_zero, List.set_cons_succ])
  refine wpAnyH_take (i := 12) (oi := ⟨some 15, _, _, _, _, _⟩) (v := ?_) rfl (by kernel_rfl) (by kernel_rfl) (by kernel_rfl) (fun _ _ _ h => h) (Or.inl ⟨by kernel_rfl, ?_⟩) (by assumption) ?_
  rotate_left
  · (intro w hSw; (try dsimp only at hSw); go_simp; (first | done | with_reducible rfl))
  (try simp only [Act.put, List.setIfInBounds_toArray, List.set_cons_zero, List.set_cons_succ])
  refine wpAnyH_take (i := 13) (oi := ⟨some 16, _, _, _, _, _⟩) (v := ?_) rfl (by kernel_rfl) (by kernel_rfl) (by kernel_rfl) (fun _ _ _ h => h) (Or.inl ⟨by kernel_rfl, ?_⟩) (by assumption) ?_
  rotate_left
  · (intro w hSw; (try dsimp only at hSw); go_simp; (first | done | with_reducible rfl))
  (try simp only [Act.put, List.setIfInBounds_toArray, List.set_cons_zero, List.set_cons_succ])
  refine wpAnyH_ready (rs := [14]) (by kernel_rfl) (by simp) ?_
  refine AllReadyH.cons rfl (fun K hK => ?_) AllReadyH.nil
  go_simp
  refine hK.out _ _ ?_ (fun hHeld2 => ?_)
  · (try dsimp only)
    first | exact ⟨p2, pf, pb, HMM.out.eq rfl⟩ | exact ⟨cell_off (by decide) _ p2, (World.frozen?_setCell _ _ _ _).trans pf, cell_far hdb _ pb, HMM.out.chg (Chg.set w ⟨db, 1, none⟩ (.int .i64 ((u - m : Nat) : Int))).drew (fun e => hbd e.symm)⟩
  clear hK K hHeld1
  (try simp only [Act.put, List.setIfInBounds_toArray, List.set_cons_zero, List.set_cons_succ])
  refine wpAnyH_done (by kernel_rfl) ?_ _
  obtain ⟨q2, qf, qb, hm1⟩ := hHeld2
  have HH1 := Lib.hid (HHH.out.set 1 (.int .i64 ((u - m : Nat) : Int)))
  have HC1 := Lib.hid ((Chg.set w ⟨db, 1, none⟩ (.int .i64 ((u - m : Nat) : Int))).drew)
  have HH2 : Hid (Holds (w.setCell ⟨db, 1, none⟩ (.int .i64 ((u - m : Nat) : Int))).drew db 48 #[.int .i64 (size : Int), .int .i64 ((u - m : Nat) : Int), .map (some bm), hv]) := HH1.out
  generalize (w.setCell ⟨db, 1, none⟩ (.int .i64 ((u - m : Nat) : Int))).drew = w1 at q2 qf qb hm1 HC1 HH2 ⊢
  clear HH1
  have HM1 := Lib.hid hm1
  clear hm1 qf
  go_wp2_with fail
  refine wp_region_held_drew (S := (fun w' => w'.cell? ⟨db, 2, none⟩ = some (.map (some bm)) ∧ w'.cell? ⟨b, 0, none⟩ = some (.string s))) (by kernel_rfl) ?_ (fun hHeld0 => ?_)
  · (try dsimp only)
    first | exact ⟨q2, qb⟩ | exact ⟨hc5.cell (p := ⟨db, 2, none⟩) hbd q2, hc5.cell (p := ⟨b, 0, none⟩) (fun e => hbm e.symm) qb⟩
  refine wpAnyH_take (i := 0) (oi := ⟨some 17, _, _, _, _, _⟩) (v := ?_) rfl (by kernel_rfl) (by kernel_rfl) (by kernel_rfl) (fun _ _ _ h => h) (Or.inl ⟨by kernel_rfl, ?_⟩) (by assumption) ?_
  rotate_left
  · (intro w hSw; (try dsimp only at hSw); go_simp; (first | done | with_reducible rfl))
  (try simp only [Act.put, List.setIfInBounds_toArray, List.set_cons_zero, List.set_cons_succ])
  refine wpAnyH_take (i := 1) (oi := ⟨some 18, _, _, _, _, _⟩) (v := ?_) rfl (by kernel_rfl) (by kernel_rfl) (by kernel_rfl) (fun _ _ _ h => h) (Or.inl ⟨by kernel_rfl, ?_⟩) (by assumption) ?_
  rotate_left
  · (intro w hSw; (try dsimp only at hSw); go_simp; (first | done | with_reducible rfl))
  (try simp only [Act.put, List.setIfInBounds_toArray, List.set_cons_zero, List.set_cons_succ])
  refine wpAnyH_take (i := 2) (oi := ⟨some 19, _, _, _, _, _⟩) (v := ?_) rfl (by kernel_rfl) (by kernel_rfl) (by kernel_rfl) (fun _ _ _ h => h) (Or.inl ⟨by kernel_rfl, ?_⟩) (by assumption) ?_
  rotate_left
  · (intro w hSw; (try dsimp only at hSw); go_simp; (first | done | with_reducible rfl))
  (try simp only [Act.put, List.setIfInBounds_toArray, List.set_cons_zero, List.set_cons_succ])
  refine wpAnyH_take (i := 3) (oi := ⟨some 20, _, _, _, _, _⟩) (v := ?_) rfl (by kernel_rfl) (by kernel_rfl) (by kernel_rfl) (fun _ _ _ h => h) (Or.inl ⟨by kernel_rfl, ?_⟩) (by assumption) ?_
  rotate_left
  · (intro w hSw; (try dsimp only at hSw); go_simp; (first | done | with_reducible rfl))
  (try simp only [Act.put, List.setIfInBounds_toArray, List.set_cons_zero, List.set_cons_succ])
  refine wpAnyH_take (i := 4) (oi := ⟨some 21, _, _, _, _, _⟩) (v := ?_) rfl (by kernel_rfl) (by kernel_rfl) (by kernel_rfl) (fun _ _ _ h => h) (Or.inl ⟨by kernel_rfl, ?_⟩) (by assumption) ?_
  rotate_left
  · (intro w hSw; (try dsimp only at hSw); go_simp; (first | done | with_reducible rfl))
  (try simp only [Act.put, List.setIfInBounds_toArray, List.set_cons_zero, List.set_cons_succ])
  refine wpAnyH_ready (rs := [5]) (by kernel_rfl) (by simp) ?_
  refine AllReadyH.cons rfl (fun K hK => ?_) AllReadyH.nil
  obtain ⟨w5, hr5, hm5, hc5⟩ := (HM1.out.eq (w' := w1.drew) rfl).drop HUU.out str_key map_under s (by simp only [maxLen]; omega) 0
  go_simp
  refine hK.out _ _ ?_ (fun hHeld1 => ?_)
  · (try dsimp only)
    first | exact ⟨q2, qb⟩ | exact ⟨hc5.cell (p := ⟨db, 2, none⟩) hbd q2, hc5.cell (p := ⟨b, 0, none⟩) (fun e => hbm e.symm) qb⟩
  clear hK K hHeld0
  (try simp only [Act.put, List.setIfInBounds_toArray, List.set_cons_zero, List.set_cons_succ])
  refine wpAnyH_done (by kernel_rfl) ?_ _
  have HF5 := Lib.hid (And.intro hm5 hc5)
  clear hm5 hc5 hr5
  go_wp2_with fail
  go_end0
  exact ⟨⟨_, rfl⟩, HF5.out.2.holds hbd HH2.out, HF5.out.1, (HC1.out.mono (fun k _ h => Or.inl h)).drew.trans HF5.out.2 (fun k _ h => Or.inr h)⟩
/-- a file's bytes are a row of its own -/
theorem valF_row {w : World} {es : List Fe} (hr : ∀ e ∈ es, w.ownsRow 0 5 1 e.v e.c.length (u8L e.c)) (s : ByteArray) :
    w.ownsRow 0 5 1 (valF es s) ((getB (fsOf es) s).getD []).length (u8L ((getB (fsOf es) s).getD [])) := by
  rw [getB_of]
  unfold valF
  cases he : findF es s with
  | none => exact World.ownsRow_nil _ _ _ _
  | some e => exact hr e (List.mem_of_find?_eq_some he)
theorem valF_off {es : List Fe} {Q : Nat → Prop} (h : ∀ e ∈ es, ∀ k, e.v.ownBlock = some k → Q k) (s : ByteArray) : ∀ k, (valF es s).ownBlock = some k → Q k := by
  unfold valF
  cases he : findF es s with
  | none => exact fun k hk => by cases hk
  | some e => exact h e (List.mem_of_find?_eq_some he)
theorem add_addr (g off j : Nat) : (⟨g, off, none⟩ : Addr).add j = ⟨g, off + j, none⟩ := by
  unfold Addr.add
  split <;> simp_all
theorem info_u8 : (Try.prog.info? 5).map (fun i => (i.zero, i.size, i.bytes)) = some (some (.int .u8 0), 1, 1) := by kernel_rfl
theorem under_bytes : Try.prog.underlying 30 = some (.slice 5) := by kernel_rfl
set_option maxRecDepth 100000 in
set_option maxHeartbeats 2000000 in
theorem behind1_any {w : World} {F Ro : Nat → Prop} {db size bm bb bn blk off cap : Nat} {es : List Fe} {hist : List Raw} {hv : Value} {fs : List Value} {s : ByteArray} {q : Bs} {rs : List Raw} (h : DiskAt w F Ro db size es hist bm hv fs rs) (hbb : Ro bb) (hbn : Ro bn) (hbk : Ro blk) (hq : Holds w bb 30 #[.slice (some ⟨blk, off, none⟩) q.length cap]) (hs : Holds w bn 9 #[.string s]) (hn : s.size ≤ 80) (hq1 : 0 < q.length) (hq2 : q.length ≤ 512)
    (hqc : ∀ (j : Nat) u, (u8L q)[j]? = some u → w.cell? ⟨blk, off + j, none⟩ = some u) (he : es.length < 1000000) (hu : usedB (fsOf es) ≤ 1000000000000) :
    Calls Try.prog 31 #[.pointer (some ⟨db, 0, none⟩), .pointer (some ⟨bb, 0, none⟩), .pointer (some ⟨bn, 0, none⟩)] w fun e w' => (∃ v, e = .returned v) ∧ ∃ v', Holds w' db 48 #[.int .i64 (size : Int), .int .i64 ((usedB (fsOf es) + q.length : Nat) : Int), .map (some bm), hv] ∧
      FsMap w' Try.prog 9 bm (putF es ⟨s, v', (getB (fsOf es) s).getD [] ++ q⟩) ∧ w'.ownsRow 0 5 1 v' ((getB (fsOf es) s).getD [] ++ q).length (u8L ((getB (fsOf es) s).getD [] ++ q)) ∧
      (∀ k, v'.ownBlock = some k → ((valF es s).ownBlock = some k ∨ w.heap.size ≤ k) ∧ k < w'.heap.size) ∧ Chg w w' (fun k => k = db ∨ k = bm ∨ (valF es s).ownBlock = some k) := by
  obtain ⟨A, c, hval, hlc⟩ := valF_form h.rows s
  have hrow := valF_row h.rows s
  have hle : ((getB (fsOf es) s).getD []).length ≤ usedB (fsOf es) := by
    have := used_del (by rw [h.says]; exact uniq_runR _ : UniqB (fsOf es)) s
    omega
  have hoff := valF_off (Q := fun k => ¬ k = db ∧ ¬ k = bm) (fun e he k hk => ⟨(h.offDb.2.2 e he k hk).1, (h.offDb.2.2 e he k hk).2.1⟩) s
  have hinF := valF_off (Q := F) h.inEs s
  have d1 : db ≠ bb := fun e => h.off bb hbb (e ▸ h.inDb)
  have d2 : db ≠ bn := fun e => h.off bn hbn (e ▸ h.inDb)
  have d3 : ¬ blk = db := fun e => h.off blk hbk (e ▸ h.inDb)
  have m1 : ¬ bb = bm := fun e => h.off bb hbb (e ▸ h.inBm)
  have m2 : ¬ bn = bm := fun e => h.off bn hbn (e ▸ h.inBm)
  have v1 : ¬ some bb = (valF es s).ownBlock := fun e => h.off bb hbb (hinF _ e.symm)
  have v2 : ¬ some bn = (valF es s).ownBlock := fun e => h.off bn hbn (hinF _ e.symm)
  have v3 : ¬ some db = (valF es s).ownBlock := fun e => (hoff _ e.symm).1 rfl
  have v4 : ¬ some bm = (valF es s).ownBlock := fun e => (hoff _ e.symm).2 rfl
  have hbd : ¬ db = bm := h.offDb.1
  have HH := h.hold
  have HM := h.map
  have HU := h.uniq
  clear h hbb hbn hbk hinF
  generalize (getB (fsOf es) s).getD [] = o at hval hlc hle hrow ⊢
  generalize usedB (fsOf es) = u at hle hu HH ⊢
  have p1 : w.cell? ⟨db, 1, none⟩ = some (.int .i64 (u : Int)) := HH.cell 1
  have p2 : w.cell? ⟨db, 2, none⟩ = some (.map (some bm)) := HH.cell 2
  have pf : w.frozen? ⟨db, 1, none⟩ = false := HH.free 1
  have pb : w.cell? ⟨bb, 0, none⟩ = some (.slice (some ⟨blk, off, none⟩) q.length cap) := hq.cell 0
  have pn : w.cell? ⟨bn, 0, none⟩ = some (.string s) := hs.cell 0
  have e1 : IntKind.i64.wrap ((u : Int) + (q.length : Int)) = (u : Int) + (q.length : Int) := IntWalk.i64_in _ (by omega)
  have HHH := Lib.hid HH
  have HMM := Lib.hid HM
  have HUU := Lib.hid HU
  have HR := Lib.hid hrow
  have HO := Lib.hid hoff
  have HQ := Lib.hid hqc
  generalize hvv : valF es s = vv at hval HR HO v1 v2 v3 v4 ⊢
  have HV := Lib.hid hvv
  have HE := Lib.hid hval
  clear HH HM HU hval hs hq hrow hoff hqc hvv
  go_enter Try.func31, Try.ntmps31
  go_wp2_with fail
  refine wp_region_held_drew (S := (fun w' => w'.frozen? ⟨db, 1, none⟩ = false ∧ w'.cell? ⟨bb, 0, none⟩ = some (.slice (some ⟨blk, off, none⟩) q.length cap))) (by kernel_rfl) ?_ (fun hHeld0 => ?_)
  · (try dsimp only)
    first | exact ⟨pf, pb⟩ | exact ⟨(World.frozen?_setCell _ _ _ _).trans pf, cell_far d1 _ pb⟩
  refine wpAnyH_take (i := 0) (oi := ⟨some 4, _, _, _, _, _⟩) (v := ?_) rfl (by kernel_rfl) (by kernel_rfl) (by kernel_rfl) (fun _ _ _ h => h) (Or.inl ⟨by kernel_rfl, ?_⟩) (by assumption) ?_
  rotate_left
  · (intro w hSw; (try dsimp only at hSw); go_simp; (first | done | with_reducible rfl))
  (try simp only [Act.put, List.setIfInBounds_toArray, List.set_cons_zero, List.set_cons_succ])
  refine wpAnyH_take (i := 1) (oi := ⟨some 5, _, _, _, _, _⟩) (v := ?_) rfl (by kernel_rfl) (by kernel_rfl) (by kernel_rfl) (fun _ _ _ h => h) (Or.inl ⟨by kernel_rfl, ?_⟩) (by assumption) ?_
  rotate_left
  · (intro w hSw; (try dsimp only at hSw); go_simp; (first | done | with_reducible rfl))
  (try simp only [Act.put, List.setIfInBounds_toArray, List.set_cons_zero, List.set_cons_succ])
  refine wpAnyH_take (i := 2) (oi := ⟨some 6, _, _, _, _, _⟩) (v := ?_) rfl (by kernel_rfl) (by kernel_rfl) (by kernel_rfl) (fun _ _ _ h => h) (Or.inl ⟨by kernel_rfl, ?_⟩) (by assumption) ?_
  rotate_left
  · (intro w hSw; (try dsimp only at hSw); go_simp; (first | done | with_reducible rfl))
  (try simp only [Act.put, List.setIfInBounds_toArray, List.set_cons_zero, List.set_cons_succ])
  refine wpAnyH_take (i := 4) (oi := ⟨some 8, _, _, _, _, _⟩) (v := ?_) rfl (by kernel_rfl) (by kernel_rfl) (by kernel_rfl) (fun _ _ _ h => h) (Or.inl ⟨by kernel_rfl, ?_⟩) (by assumption) ?_
  rotate_left
  · (intro w hSw; (try dsimp only at hSw); go_simp; (first | done | with_reducible rfl))
  (try simp only [Act.put, List.setIfInBounds_toArray, List.set_cons_zero, List.set_cons_succ])
  refine wpAnyH_take (i := 5) (oi := ⟨some 9, _, _, _, _, _⟩) (v := ?_) rfl (by kernel_rfl) (by kernel_rfl) (by kernel_rfl) (fun _ _ _ h => h) (Or.inl ⟨by kernel_rfl, ?_⟩) (by assumption) ?_
  rotate_left
  · (intro w hSw; (try dsimp only at hSw); go_simp; (first | done | with_reducible rfl))
  (try simp only [Act.put, List.setIfInBounds_toArray, List.set_cons_zero, List.set_cons_succ])
  refine wpAnyH_ready (rs := [3]) (by kernel_rfl) (by simp) ?_
  refine AllReadyH.cons (o := ⟨some 7, _, _, _, _, _⟩) rfl (fun K hK => ?_) AllReadyH.nil
  go_simp
  refine hK.out _ _ ?_ (fun hHeld1 => ?_)
  · (try dsimp only)
    first | exact ⟨pf, pb⟩ | exact ⟨(World.frozen?_setCell _ _ _ _).trans pf, cell_far d1 _ pb⟩
  clear hK K hHeld0
  (try simp only [Act.put, List.setIfInBounds_toArray, List.set_cons_zero, List.set_cons_succ])
  refine wpAnyH_take (i := 6) (oi := ⟨some 10, _, _, _, _, _⟩) (v := ?_) rfl (by kernel_rfl) (by kernel_rfl) (by kernel_rfl) (fun _ _ _ h => h) (Or.inl ⟨by kernel_rfl, ?_⟩) (by assumption) ?_
  rotate_left
  · (intro w hSw; (try dsimp only at hSw); go_simp; (first | done | with_reducible rfl))
  (try simp only [Act.put, List.setIfInBounds_toArray, List.set_cons_zero, List.set_cons_succ])
  refine wpAnyH_take (i := 7) (oi := ⟨some 11, _, _, _, _, _⟩) (v := ?_) rfl (by kernel_rfl) (by kernel_rfl) (by kernel_rfl) (fun _ _ _ h => h) (Or.inl ⟨by kernel_rfl, ?_⟩) (by assumption) ?_
  rotate_left
  · (intro w hSw; (try dsimp only at hSw); go_simp; (first | done | with_reducible rfl))
  (try simp only [Act.put, List.setIfInBounds_toArray, List.set_cons_zero, List.set_cons_succ])
  refine wpAnyH_take (i := 8) (oi := ⟨some 12, _, _, _, _, _⟩) (v := ?_) rfl (by kernel_rfl) (by kernel_rfl) (by kernel_rfl) (fun _ _ _ h => h) (Or.inl ⟨by kernel_rfl, ?_⟩) (by assumption) ?_
  rotate_left
  · (intro w hSw; (try dsimp only at hSw); go_simp; (first | done | with_reducible rfl))
  (try simp only [Act.put, List.setIfInBounds_toArray, List.set_cons_zero, List.set_cons_succ])
  refine wpAnyH_ready (rs := [9]) (by kernel_rfl) (by simp) ?_
  refine AllReadyH.cons rfl (fun K hK => ?_) AllReadyH.nil
  go_simp
  refine hK.out _ _ ?_ (fun hHeld2 => ?_)
  · (try dsimp only)
    first | exact ⟨pf, pb⟩ | exact ⟨(World.frozen?_setCell _ _ _ _).trans pf, cell_far d1 _ pb⟩
  clear hK K hHeld1
  (try simp only [Act.put, List.setIfInBounds_toArray, List.set_cons_zero, List.set_cons_succ])
  refine wpAnyH_done (by kernel_rfl) ?_ _
  clear hHeld2
  have HH1 := Lib.hid (HHH.out.set 1 (.int .i64 ((u : Int) + (q.length : Int))))
  have HC1 := Lib.hid ((Chg.set w ⟨db, 1, none⟩ (.int .i64 ((u : Int) + (q.length : Int)))).drew)
  have HH2 : Hid (Holds (w.setCell ⟨db, 1, none⟩ (.int .i64 ((u : Int) + (q.length : Int)))).drew db 48 #[.int .i64 (size : Int), .int .i64 ((u : Int) + (q.length : Int)), .map (some bm), hv]) := HH1.out
  generalize (w.setCell ⟨db, 1, none⟩ (.int .i64 ((u : Int) + (q.length : Int)))).drew = w1 at HC1 HH2 ⊢
  clear HH1
  have HM1 := Lib.hid (HMM.out.chg HC1.out (fun e => hbd e.symm))
  have q2 : w1.cell? ⟨db, 2, none⟩ = some (.map (some bm)) := HH2.out.cell 2
  have qb := HC1.out.cell (p := ⟨bb, 0, none⟩) (fun e => d1 e.symm) pb
  have qn := HC1.out.cell (p := ⟨bn, 0, none⟩) (fun e => d2 e.symm) pn
  go_wp2_with fail
  refine wp_region_held_drew (S := (fun w' => w'.cell? ⟨db, 2, none⟩ = some (.map (some bm)) ∧ w'.cell? ⟨bb, 0, none⟩ = some (.slice (some ⟨blk, off, none⟩) q.length cap) ∧ w'.cell? ⟨bn, 0, none⟩ = some (.string s))) (by kernel_rfl) ?_ (fun hHeld0 => ?_)
  · (try dsimp only)
    first | exact ⟨q2, qb, qn⟩ | exact ⟨r2, rb, rn⟩ | exact ⟨hc6.cell (p := ⟨db, 2, none⟩) hbd r2, hc6.cell (p := ⟨bb, 0, none⟩) m1 rb, hc6.cell (p := ⟨bn, 0, none⟩) m2 rn⟩
  refine wpAnyH_take (i := 0) (oi := ⟨some 13, _, _, _, _, _⟩) (v := ?_) rfl (by kernel_rfl) (by kernel_rfl) (by kernel_rfl) (fun _ _ _ h => h) (Or.inl ⟨by kernel_rfl, ?_⟩) (by assumption) ?_
  rotate_left
  · (intro w hSw; (try dsimp only at hSw); go_simp; (first | done | with_reducible rfl))
  (try simp only [Act.put, List.setIfInBounds_toArray, List.set_cons_zero, List.set_cons_succ])
  refine wpAnyH_take (i := 1) (oi := ⟨some 14, _, _, _, _, _⟩) (v := ?_) rfl (by kernel_rfl) (by kernel_rfl) (by kernel_rfl) (fun _ _ _ h => h) (Or.inl ⟨by kernel_rfl, ?_⟩) (by assumption) ?_
  rotate_left
  · (intro w hSw; (try dsimp only at hSw); go_simp; (first | done | with_reducible rfl))
  (try simp only [Act.put, List.setIfInBounds_toArray, List.set_cons_zero, List.set_cons_succ])
  refine wpAnyH_take (i := 2) (oi := ⟨some 15, _, _, _, _, _⟩) (v := ?_) rfl (by kernel_rfl) (by kernel_rfl) (by kernel_rfl) (fun _ _ _ h => h) (Or.inl ⟨by kernel_rfl, ?_⟩) (by assumption) ?_
  rotate_left
  · (intro w hSw; (try dsimp only at hSw); go_simp; (first | done | with_reducible rfl))
  (try simp only [Act.put, List.setIfInBounds_toArray, List.set_cons_zero, List.set_cons_succ])
  refine wpAnyH_take (i := 3) (oi := ⟨some 16, _, _, _, _, _⟩) (v := ?_) rfl (by kernel_rfl) (by kernel_rfl) (by kernel_rfl) (fun _ _ _ h => h) (Or.inl ⟨by kernel_rfl, ?_⟩) (by assumption) ?_
  rotate_left
  · (intro w hSw; (try dsimp only at hSw); go_simp; (first | done | with_reducible rfl))
  (try simp only [Act.put, List.setIfInBounds_toArray, List.set_cons_zero, List.set_cons_succ])
  refine wpAnyH_take (i := 4) (oi := ⟨some 17, _, _, _, _, _⟩) (v := ?_) rfl (by kernel_rfl) (by kernel_rfl) (by kernel_rfl) (fun _ _ _ h => h) (Or.inl ⟨by kernel_rfl, ?_⟩) (by assumption) ?_
  rotate_left
  · (intro w hSw; (try dsimp only at hSw); go_simp; (first | done | with_reducible rfl))
  (try simp only [Act.put, List.setIfInBounds_toArray, List.set_cons_zero, List.set_cons_succ])
  refine wpAnyH_take (i := 5) (oi := ⟨some 18, _, _, _, _, _⟩) (v := ?_) rfl (by kernel_rfl) (by kernel_rfl) (by kernel_rfl) (fun _ _ _ h => h) (Or.inl ⟨by kernel_rfl, ?_⟩) (by assumption) ?_
  rotate_left
  · (intro w hSw; (try dsimp only at hSw); go_simp; (first | done | with_reducible rfl))
  (try simp only [Act.put, List.setIfInBounds_toArray, List.set_cons_zero, List.set_cons_succ])
  refine wpAnyH_take (i := 6) (oi := ⟨some 19, _, _, _, _, _⟩) (v := ?_) rfl (by kernel_rfl) (by kernel_rfl) (by kernel_rfl) (fun _ _ _ h => h) (Or.inl ⟨by kernel_rfl, ?_⟩) (by assumption) ?_
  rotate_left
  · (intro w hSw; (try dsimp only at hSw); go_simp; (first | done | with_reducible rfl))
  (try simp only [Act.put, List.setIfInBounds_toArray, List.set_cons_zero, List.set_cons_succ])
  refine wpAnyH_take (i := 7) (oi := ⟨some 20, _, _, _, _, _⟩) (v := ?_) rfl (by kernel_rfl) (by kernel_rfl) (by kernel_rfl) (fun _ _ _ h => h) (Or.inl ⟨by kernel_rfl, ?_⟩) (by assumption) ?_
  rotate_left
  · (intro w hSw; (try dsimp only at hSw); go_simp; (first | done | with_reducible rfl))
  (try simp only [Act.put, List.setIfInBounds_toArray, List.set_cons_zero, List.set_cons_succ])
  refine wpAnyH_take (i := 8) (oi := ⟨some 21, _, _, _, _, _⟩) (v := ?_) rfl (by kernel_rfl) (by kernel_rfl) (by kernel_rfl) (fun _ _ _ h => h) (Or.inl ⟨by kernel_rfl, ?_⟩) (by assumption) ?_
  rotate_left
  · (intro w hSw; (try dsimp only at hSw); go_simp; (first | done | with_reducible rfl))
  (try simp only [Act.put, List.setIfInBounds_toArray, List.set_cons_zero, List.set_cons_succ])
  refine wpAnyH_take (i := 9) (oi := ⟨some 22, _, _, _, _, _⟩) (v := ?_) rfl (by kernel_rfl) (by kernel_rfl) (by kernel_rfl) (fun _ _ _ h => h) (Or.inl ⟨by kernel_rfl, ?_⟩) (by assumption) ?_
  rotate_left
  · (intro w hSw; (try dsimp only at hSw); go_simp; (first | done | with_reducible rfl))
  (try simp only [Act.put, List.setIfInBounds_toArray, List.set_cons_zero, List.set_cons_succ])
  refine wpAnyH_take (i := 11) (oi := ⟨some 24, _, _, _, _, _⟩) (v := ?_) rfl (by kernel_rfl) (by kernel_rfl) (by kernel_rfl) (fun _ _ _ h => h) (Or.inl ⟨by kernel_rfl, ?_⟩) (by assumption) ?_
  rotate_left
  · (intro w hSw; (try dsimp only at hSw); go_simp; (first | done | with_reducible rfl))
  (try simp only [Act.put, List.setIfInBounds_toArray, List.set_cons_zero, List.set_cons_succ])
  refine wpAnyH_ready (rs := [10]) (by kernel_rfl) (by simp) ?_
  refine AllReadyH.cons (o := ⟨some 23, _, _, _, _, _⟩) rfl (fun K hK => ?_) AllReadyH.nil
  have hl := (HM1.out.eq (w' := w1.drew) rfl).look (s := s) str_key map_under (zero_bytes w1.drew) (by simp only [maxLen]; omega)
  rw [HV.out] at hl
  go_simp
  clear hl
  refine hK.out _ _ ?_ (fun hHeld1 => ?_)
  · (try dsimp only)
    first | exact ⟨q2, qb, qn⟩ | exact ⟨r2, rb, rn⟩ | exact ⟨hc6.cell (p := ⟨db, 2, none⟩) hbd r2, hc6.cell (p := ⟨bb, 0, none⟩) m1 rb, hc6.cell (p := ⟨bn, 0, none⟩) m2 rn⟩
  clear hK K hHeld0
  (try simp only [Act.put, List.setIfInBounds_toArray, List.set_cons_zero, List.set_cons_succ])
  refine wpAnyH_ready (rs := [12]) (by kernel_rfl) (by simp) ?_
  refine AllReadyH.cons (o := ⟨some 25, _, _, _, _, _⟩) rfl (fun K hK => ?_) AllReadyH.nil
  obtain ⟨i0, hi, hz0, hz1, hz2⟩ := info_parts info_u8
  refine step_append_lies _ (by rfl) _ _ _ (by rfl) 0 5 i0 _ 1 1 under_bytes hi hz0 hz1 hz2 rfl (by omega) vv o.length (u8L o) (by rfl)
    (HC1.out.drew.owns HR.out (fun k hk => (HO.out k hk).1)) ⟨blk, off, none⟩ q.length cap (u8L q) (by rfl) (by rw [u8L_length]; omega) (fun j u hj => by rw [add_addr]; exact HC1.out.drew.cell (p := ⟨blk, off + j, none⟩) d3 (HQ.out j u hj)) (fun u hu => u8L_one hu) hq1 (by simp only [maxLen]; omega) (by omega) (Nat.zero_le _) w1.heap.size rfl ?_
  rintro g5 cap5 w5 ho5 hg5 hlie hlt5
  have HC5 := Lib.hid (Chg.grown hg5)
  have HM5 := Lib.hid (((HM1.out.eq (w' := w1.drew) rfl)).chg HC5.out v4)
  have HO5 := Lib.hid (And.intro ho5 (And.intro hlie hlt5))
  have r2 := HC5.out.cell (p := ⟨db, 2, none⟩) v3 q2
  have rb := HC5.out.cell (p := ⟨bb, 0, none⟩) v1 qb
  have rn := HC5.out.cell (p := ⟨bn, 0, none⟩) v2 qn
  clear ho5 hg5 hlie hlt5
  refine hK.out _ _ ?_ (fun hHeld2 => ?_)
  · (try dsimp only)
    first | exact ⟨q2, qb, qn⟩ | exact ⟨r2, rb, rn⟩ | exact ⟨hc6.cell (p := ⟨db, 2, none⟩) hbd r2, hc6.cell (p := ⟨bb, 0, none⟩) m1 rb, hc6.cell (p := ⟨bn, 0, none⟩) m2 rn⟩
  clear hK K hHeld1
  (try simp only [Act.put, List.setIfInBounds_toArray, List.set_cons_zero, List.set_cons_succ])
  refine wpAnyH_ready (rs := [13]) (by kernel_rfl) (by simp) ?_
  refine AllReadyH.cons rfl (fun K hK => ?_) AllReadyH.nil
  obtain ⟨w6, hr6, hm6, hc6, hz6⟩ := HM5.out.store HUU.out str_key map_under (by simp only [maxLen]; omega) ⟨s, .slice (some ⟨g5, 0, none⟩) (o.length + q.length) cap5, o ++ q⟩ (by simp only [maxLen]; omega)
  go_simp
  refine hK.out _ _ ?_ (fun hHeld3 => ?_)
  · (try dsimp only)
    first | exact ⟨q2, qb, qn⟩ | exact ⟨r2, rb, rn⟩ | exact ⟨hc6.cell (p := ⟨db, 2, none⟩) hbd r2, hc6.cell (p := ⟨bb, 0, none⟩) m1 rb, hc6.cell (p := ⟨bn, 0, none⟩) m2 rn⟩
  clear hK K hHeld2
  (try simp only [Act.put, List.setIfInBounds_toArray, List.set_cons_zero, List.set_cons_succ])
  refine wpAnyH_done (by kernel_rfl) ?_ _
  have HF6 := Lib.hid (And.intro hm6 (And.intro hc6 hz6))
  clear hm6 hc6 hr6 hz6
  go_wp2_with fail
  go_end0
  have hlt1 : bm < w1.heap.size := HM1.out.lt
  have hg5 : ¬ g5 = bm := fun e => by
    rcases HO5.out.2.1 with h | h
    · exact (HO.out _ h).2 e
    · omega
  have hsz := HC1.out.size
  refine ⟨⟨_, rfl⟩, _, ?_, HF6.out.1, ?_, fun k hk => ?_, ?_⟩
  · rw [Int.natCast_add]
    exact HF6.out.2.1.holds hbd (HC5.out.holds v3 HH2.out.drew)
  · rw [List.length_append, u8L_append]
    exact HF6.out.2.1.owns HO5.out.1 (fun k hk => by injection hk with hk; subst hk; exact hg5)
  · injection hk with hk
    subst hk
    refine ⟨?_, by rw [HF6.out.2.2]; exact HO5.out.2.2⟩
    rcases HO5.out.2.1 with h | h
    · exact .inl h
    · exact .inr (by show w.heap.size ≤ g5; omega)
  · exact ((HC1.out.mono (T := fun k => k = db ∨ k = bm ∨ vv.ownBlock = some k) (fun k _ h => Or.inl h)).drew.trans HC5.out (fun k _ h => Or.inr (Or.inr h.symm))).trans HF6.out.2.1 (fun k _ h => Or.inr (Or.inl h))
end Go.Proofs.Ytggnkpblfmjbcaa
