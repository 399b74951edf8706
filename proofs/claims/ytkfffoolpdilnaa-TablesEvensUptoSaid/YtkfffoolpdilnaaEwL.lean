/-
  Walks: are spans in memory of their own still what they were made of, their marks too (Left..)?
-/
import Derived.Test.YtkfffoolpdilnaaEwS
namespace Go.Proofs.Ytkfffoolpdilnaa
open Go.RowKit Go.Bd
/-- what is known of spans that are looked at so, so many at most -/
def LeftOk (N : Nat) : Prop := ∀ (l : List Sp), manyL l ≤ N → manyL l ≤ 4000000 → ∀ (t v : Value) (w : World) (B : Nat), Marked w (· < B) t l → Forest w (· < B) v l → B ≤ w.heap.size →
    Calls Try.prog 20 #[t, v] w fun e w' => e = .returned (.bool true) ∧ Below B w w'
set_option maxRecDepth 100000 in
set_option maxHeartbeats 4000000 in
theorem left1_any {N : Nat} (ih : LeftOk N) (x : Sp) (hN : manyL x.kids ≤ N) (hm : manyL x.kids ≤ 4000000) (t v : Value) (w : World) (B : Nat) (hT : Marked w (· < B) t x.kids) (hF : Forest w (· < B) v x.kids) (hB : B ≤ w.heap.size) :
    Calls Try.prog 23 #[.agg #[.int .u8 (x.kind : Int), .string ⟨x.text.toArray⟩, .string ⟨x.sub.toArray⟩, .string ⟨x.see.toArray⟩, t], .agg #[.int .u8 (x.kind : Int), .string ⟨x.text.toArray⟩, .string ⟨x.sub.toArray⟩, .string ⟨x.see.toArray⟩, v]] w fun e w' => e = .returned (.bool true) ∧ Below B w w' := by
  obtain ⟨A, c, rfl, hc⟩ := hF.len
  obtain ⟨tg, tc, rfl, htc, _⟩ := hT.form
  have HF := Lib.hid hF
  have HT := Lib.hid hT
  have HI := Lib.hid ih
  clear hF hT ih
  go_enter Try.func23, Try.ntmps23
  go_wp2_with fail
  refine (HI.out x.kids hN hm _ _ _ B (HT.out.under (((Below.refl B w).alloc hB _).alloc (by simp; omega) _) (fun _ h => h)) (HF.out.under (((Below.refl B w).alloc hB _).alloc (by simp; omega) _) (fun _ h => h)) (by simp; omega)).mono ?_
  rintro e w2 ⟨rfl, hb2⟩
  have HB := Lib.hid ((((Below.refl B w).alloc hB _).alloc (by simp; omega) _).trans hb2)
  clear hb2
  go_wp2
  go_ret
  exact ⟨rfl, HB.out⟩
set_option maxRecDepth 100000 in
set_option maxHeartbeats 4000000 in
theorem left_step {N : Nat} (ih : ∀ M, M < N → LeftOk M) : LeftOk N := by
  intro l hN hm t v w B hT hF hB
  obtain ⟨A, c, rfl, hc⟩ := hF.len
  obtain ⟨tg, tc, rfl, htc, htB, hmk, htx⟩ := hT.form
  have hlm := many_len l
  have HF := Lib.hid hF
  have HT := Lib.hid htx
  have HI := Lib.hid ih
  have HMK := Lib.hid hmk
  clear hF hT ih htx hmk
  obtain ⟨n, hn⟩ : ∃ n, l.length = n := ⟨_, rfl⟩
  have HN := Lib.hid hn
  simp only [hn] at hc hlm htc HF HMK ⊢
  clear hn
  have htB' : tg < B := htB
  clear htB
  have tcb : decide (tc ≤ n) = false := decide_eq_false (by omega)
  go_enter Try.func20, Try.ntmps20
  go_wp2
  go_loopg [5] n (fun q i wr => ∃ k : Nat, k + q = n ∧ i = .int .i64 (k : Int) ∧ Hid (Below B w wr))
  case atStart => exact ⟨0, by omega, rfl, Below.refl _ _⟩
  case round =>
    obtain ⟨k, hk, rfl, HR⟩ := hrel
    by_cases hlt : k < n
    · obtain ⟨x, hx⟩ : ∃ x, l[k]? = some x := ⟨_, List.getElem?_eq_getElem (by rw [HN.out]; exact hlt)⟩
      obtain ⟨b2, off2, kA2, kc2, rfl, hb2, hkG, q0, q1, q2, q3, q4⟩ := HF.out.at hx
      obtain ⟨kv, hkT, p0, p1, p2, p3, p4⟩ := HT.out k x hx
      obtain ⟨sg, sc, rfl, hsc, _⟩ := hkT.form
      have hbl := HR.out
      have hrb := hbl.size
      replace p0 := (hbl.cell (p := ⟨tg, k * 5, none⟩) htB').trans p0
      replace p1 := (hbl.cell (p := ⟨tg, k * 5 + 1, none⟩) htB').trans p1
      replace p2 := (hbl.cell (p := ⟨tg, k * 5 + 2, none⟩) htB').trans p2
      replace p3 := (hbl.cell (p := ⟨tg, k * 5 + 3, none⟩) htB').trans p3
      replace p4 := (hbl.cell (p := ⟨tg, k * 5 + 4, none⟩) htB').trans p4
      replace q0 := (hbl.cell (p := ⟨b2, off2 + k * 5, none⟩) hb2).trans q0
      replace q1 := (hbl.cell (p := ⟨b2, off2 + k * 5 + 1, none⟩) hb2).trans q1
      replace q2 := (hbl.cell (p := ⟨b2, off2 + k * 5 + 2, none⟩) hb2).trans q2
      replace q3 := (hbl.cell (p := ⟨b2, off2 + k * 5 + 3, none⟩) hb2).trans q3
      replace q4 := (hbl.cell (p := ⟨b2, off2 + k * 5 + 4, none⟩) hb2).trans q4
      simp only [strV] at p1 p2 p3
      have hgt := many_get hx
      have HKT := Lib.hid (hkT.under hbl (fun _ h => h))
      have HKG := Lib.hid (hkG.under hbl (fun _ h => h))
      clear hx hkT hkG hbl
      go_wp2
      refine wp_region_held_drew (S := (fun w' => w'.cell? ⟨tg, k * 5, none⟩ = some (.int .u8 (x.kind : Int)) ∧ w'.cell? ⟨tg, k * 5 + 1, none⟩ = some (.string ⟨x.text.toArray⟩) ∧ w'.cell? ⟨tg, k * 5 + 2, none⟩ = some (.string ⟨x.sub.toArray⟩) ∧ w'.cell? ⟨tg, k * 5 + 3, none⟩ = some (.string ⟨x.see.toArray⟩) ∧ w'.cell? ⟨tg, k * 5 + 4, none⟩ = some (.slice (some ⟨sg, 0, none⟩) x.kids.length sc) ∧ w'.cell? ⟨b2, off2 + k * 5, none⟩ = some (.int .u8 (x.kind : Int)) ∧ w'.cell? ⟨b2, off2 + k * 5 + 1, none⟩ = some (.string ⟨x.text.toArray⟩) ∧ w'.cell? ⟨b2, off2 + k * 5 + 2, none⟩ = some (.string ⟨x.sub.toArray⟩) ∧ w'.cell? ⟨b2, off2 + k * 5 + 3, none⟩ = some (.string ⟨x.see.toArray⟩) ∧ w'.cell? ⟨b2, off2 + k * 5 + 4, none⟩ = some (.slice kA2 x.kids.length kc2))) (by kernel_rfl) ?_ (fun hHeld0 => ?_)
      · (try dsimp only)
        first | exact ⟨p0, p1, p2, p3, p4, q0, q1, q2, q3, q4⟩ | exact ⟨r0, r1, r2, r3, r4, s0, s1, s2, s3, s4⟩
      refine wpAnyH_take (i := 0) (v := ?_) rfl (by kernel_rfl) (by kernel_rfl) (by kernel_rfl) (fun _ _ _ h => h) (Or.inl ⟨by kernel_rfl, ?_⟩) (by assumption) ?_
      rotate_left
      · (intro w hSw; (try dsimp only at hSw); go_simp; (first | done | with_reducible rfl))
      (try simp only [Act.put, List.setIfInBounds_toArray, List.set_cons_zero, List.set_cons_succ])
      refine wpAnyH_take (i := 1) (v := ?_) rfl (by kernel_rfl) (by kernel_rfl) (by kernel_rfl) (fun _ _ _ h => h) (Or.inl ⟨by kernel_rfl, ?_⟩) (by assumption) ?_
      rotate_left
      · (intro w hSw; (try dsimp only at hSw); go_simp; (first | done | with_reducible rfl))
      (try simp only [Act.put, List.setIfInBounds_toArray, List.set_cons_zero, List.set_cons_succ])
      refine wpAnyH_take (i := 2) (v := ?_) rfl (by kernel_rfl) (by kernel_rfl) (by kernel_rfl) (fun _ _ _ h => h) (Or.inl ⟨by kernel_rfl, ?_⟩) (by assumption) ?_
      rotate_left
      · (intro w hSw; (try dsimp only at hSw); go_simp; (first | done | with_reducible rfl))
      (try simp only [Act.put, List.setIfInBounds_toArray, List.set_cons_zero, List.set_cons_succ])
      refine wpAnyH_take (i := 3) (v := ?_) rfl (by kernel_rfl) (by kernel_rfl) (by kernel_rfl) (fun _ _ _ h => h) (Or.inl ⟨by kernel_rfl, ?_⟩) (by assumption) ?_
      rotate_left
      · (intro w hSw; (try dsimp only at hSw); go_simp; (first | done | with_reducible rfl))
      (try simp only [Act.put, List.setIfInBounds_toArray, List.set_cons_zero, List.set_cons_succ])
      refine wpAnyH_take (i := 4) (v := ?_) rfl (by kernel_rfl) (by kernel_rfl) (by kernel_rfl) (fun _ _ _ h => h) (Or.inl ⟨by kernel_rfl, ?_⟩) (by assumption) ?_
      rotate_left
      · (intro w hSw; (try dsimp only at hSw); go_simp; (first | done | with_reducible rfl))
      (try simp only [Act.put, List.setIfInBounds_toArray, List.set_cons_zero, List.set_cons_succ])
      refine wpAnyH_take (i := 5) (v := ?_) rfl (by kernel_rfl) (by kernel_rfl) (by kernel_rfl) (fun _ _ _ h => h) (Or.inl ⟨by kernel_rfl, ?_⟩) (by assumption) ?_
      rotate_left
      · (intro w hSw; (try dsimp only at hSw); go_simp; (first | done | with_reducible rfl))
      (try simp only [Act.put, List.setIfInBounds_toArray, List.set_cons_zero, List.set_cons_succ])
      refine wpAnyH_take (i := 6) (v := ?_) rfl (by kernel_rfl) (by kernel_rfl) (by kernel_rfl) (fun _ _ _ h => h) (Or.inl ⟨by kernel_rfl, ?_⟩) (by assumption) ?_
      rotate_left
      · (intro w hSw; (try dsimp only at hSw); go_simp; (first | done | with_reducible rfl))
      (try simp only [Act.put, List.setIfInBounds_toArray, List.set_cons_zero, List.set_cons_succ])
      refine wpAnyH_take (i := 7) (v := ?_) rfl (by kernel_rfl) (by kernel_rfl) (by kernel_rfl) (fun _ _ _ h => h) (Or.inl ⟨by kernel_rfl, ?_⟩) (by assumption) ?_
      rotate_left
      · (intro w hSw; (try dsimp only at hSw); go_simp; (first | done | with_reducible rfl))
      (try simp only [Act.put, List.setIfInBounds_toArray, List.set_cons_zero, List.set_cons_succ])
      refine wpAnyH_ready (rs := [8]) (by kernel_rfl) (by simp) ?_
      refine AllReadyH.cons rfl (fun K hK => ?_) AllReadyH.nil
      go_simp
      refine (left1_any (HI.out (manyL x.kids) (by omega)) x (Nat.le_refl _) (by omega) _ _ wr.drew B (HKT.out.keep (fun _ h => h) (fun _ _ _ h => h)) (HKG.out.keep (fun _ h => h) (fun _ _ _ h => h)) (by first | omega | (show B ≤ wr.heap.size; omega))).mono ?_
      rintro e w2 ⟨rfl, hb2'⟩
      have HB2 := Lib.hid (((Below.refl B wr).drew).trans hb2')
      clear hb2'
      have r0 := (HB2.out.cell (p := ⟨tg, k * 5, none⟩) (by omega)).trans p0
      have r1 := (HB2.out.cell (p := ⟨tg, k * 5 + 1, none⟩) (by omega)).trans p1
      have r2 := (HB2.out.cell (p := ⟨tg, k * 5 + 2, none⟩) (by omega)).trans p2
      have r3 := (HB2.out.cell (p := ⟨tg, k * 5 + 3, none⟩) (by omega)).trans p3
      have r4 := (HB2.out.cell (p := ⟨tg, k * 5 + 4, none⟩) (by omega)).trans p4
      have s0 := (HB2.out.cell (p := ⟨b2, off2 + k * 5, none⟩) (by omega)).trans q0
      have s1 := (HB2.out.cell (p := ⟨b2, off2 + k * 5 + 1, none⟩) (by omega)).trans q1
      have s2 := (HB2.out.cell (p := ⟨b2, off2 + k * 5 + 2, none⟩) (by omega)).trans q2
      have s3 := (HB2.out.cell (p := ⟨b2, off2 + k * 5 + 3, none⟩) (by omega)).trans q3
      have s4 := (HB2.out.cell (p := ⟨b2, off2 + k * 5 + 4, none⟩) (by omega)).trans q4
      go_wp2_with fail
      refine hK.out _ _ ?_ (fun hHeld1 => ?_)
      · (try dsimp only)
        first | exact ⟨p0, p1, p2, p3, p4, q0, q1, q2, q3, q4⟩ | exact ⟨r0, r1, r2, r3, r4, s0, s1, s2, s3, s4⟩
      clear hK K hHeld0
      (try simp only [Act.put, List.setIfInBounds_toArray, List.set_cons_zero, List.set_cons_succ])
      refine wpAnyH_take (i := 9) (v := ?_) rfl (by kernel_rfl) (by kernel_rfl) (by kernel_rfl) (fun _ _ _ h => h) (Or.inl ⟨by kernel_rfl, ?_⟩) (by assumption) ?_
      rotate_left
      · (intro w hSw; (try dsimp only at hSw); go_simp; (first | done | with_reducible rfl))
      (try simp only [Act.put, List.setIfInBounds_toArray, List.set_cons_zero, List.set_cons_succ])
      refine wpAnyH_done (by kernel_rfl) ?_ _
      go_wp2
      go_roundg (gk - 1)
      case measure => omega
      case rel => exact ⟨k + 1, by omega, by go_num, HR.out.trans HB2.out⟩
    · obtain rfl : k = n := by omega
      have hbl := HR.out
      have hrb := hbl.size
      have m0 : wr.cell? ⟨tg, k * 5, none⟩ = some (.int .u8 0) := (hbl.cell (p := ⟨tg, k * 5, none⟩) htB').trans (HMK.out 0 _ rfl)
      have m1 : wr.cell? ⟨tg, k * 5 + 1, none⟩ = some (.string ⟨#[115, 112, 97, 114, 101]⟩) := (hbl.cell (p := ⟨tg, k * 5 + 1, none⟩) htB').trans (HMK.out 1 _ rfl)
      have m2 : wr.cell? ⟨tg, k * 5 + 2, none⟩ = some (.string ⟨#[]⟩) := (hbl.cell (p := ⟨tg, k * 5 + 2, none⟩) htB').trans (HMK.out 2 _ rfl)
      have m3 : wr.cell? ⟨tg, k * 5 + 3, none⟩ = some (.string ⟨#[]⟩) := (hbl.cell (p := ⟨tg, k * 5 + 3, none⟩) htB').trans (HMK.out 3 _ rfl)
      have m4 : wr.cell? ⟨tg, k * 5 + 4, none⟩ = some (.slice none 0 0) := (hbl.cell (p := ⟨tg, k * 5 + 4, none⟩) htB').trans (HMK.out 4 _ rfl)
      clear hbl
      go_wp2
      go_ret
      exact ⟨by kernel_rfl, HR.out.alloc (by omega) _⟩
theorem left_any (N : Nat) : LeftOk N := by
  induction N using Nat.strongRecOn with
  | _ N ih => exact left_step ih
end Go.Proofs.Ytkfffoolpdilnaa
