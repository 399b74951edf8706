/-
  Walks: the law TermsLong.
-/
import Derived.Test.YtacghogdodcinaaDoorTWg
namespace Go.Proofs.YtacghogdodcinaaDoor
open Go.RowKit Go.Bd
theorem rep_get {k j : Nat} {x : UInt8} (h : j < k) : (List.replicate k x).getD j 0 = x := by
  rw [List.getD_eq_getElem?_getD, List.getElem?_replicate, if_pos h]; rfl
set_option maxHeartbeats 2000000 in
theorem termsLong_any (x0 x1 : Int) (m : Int) (w : World) (hm : w.cell? ⟨0, 0, none⟩ = some (.int .i64 m)) (wx0 : (Lit.int .u8 x0).wf = true) (wx1 : (Lit.int .u16 x1).wf = true) :
    Calls Tryd.prog 8 #[.int .u8 x0, .int .u16 x1] w fun e w' => e = .returned (.bool true) ∧ Below w.heap.size w w' := by
  have hw0 := block_lt_of_cell hm
  obtain ⟨c0, c1⟩ := bounds_u8 wx0
  obtain ⟨n0, n1⟩ := bounds_u16 wx1
  clear wx0 wx1
  obtain ⟨c, rfl⟩ := Int.eq_ofNat_of_zero_le c0
  obtain ⟨n, rfl⟩ := Int.eq_ofNat_of_zero_le n0
  have k := fun {W : World} (h : Below w.heap.size w W) => (h.cell (p := ⟨0, 0, none⟩) hw0).trans hm
  obtain ⟨K, hK⟩ : ∃ K : Nat, K = n % 500 := ⟨_, rfl⟩
  have hK5 : K < 500 := by omega
  obtain ⟨x, hx⟩ : ∃ x : UInt8, x = UInt8.ofNat (97 + c % 26) := ⟨_, rfl⟩
  have hxn : x.toNat = 97 + c % 26 := by rw [hx]; simp; omega
  have hx1 : 97 ≤ x.toNat := by omega
  have hx2 : x.toNat ≤ 122 := by omega
  have hbv : Hid (Value.int .u8 (97 + (c : Int) % 26) = byteV x) := by unfold Hid byteV; rw [hxn]; simp
  have hpr := parseB_letters (k := K) hx1 hx2
  have P := fun W h => Parse_any ⟨(List.replicate K x).toArray⟩ m W (by rw [size_mk, List.length_replicate]; omega) h
  have hmk := make_bytes K w (by omega)
  have e1 : (n : Int) % 500 = (K : Int) := by omega
  clear hx hxn hK
  go_enter Tryd.func8, Tryd.ntmps8
  go_wp2
  go_loopg [7] K (fun g i wr => ∃ j : Nat, j + g = K ∧ i = .int .i64 j ∧ Bytes wr w.heap.size 5 K j (List.replicate K x) ∧ Below w.heap.size w wr)
  case atStart => exact ⟨0, by omega, rfl, Bytes.new w _ _ _ (by simp [size_madeCells]), (Below.refl _ _).alloc (Nat.le_refl _) _⟩
  case round =>
    obtain ⟨j, hj, rfl, H, hb⟩ := hrel
    by_cases hlt : j < K
    · obtain ⟨u, hu⟩ := H.room hlt
      have hf := H.free hlt
      go_wp2
      go_roundg (gk - 1)
      case measure => omega
      case rel => exact ⟨j + 1, by omega, by go_num, H.put hlt (by rw [rep_get hlt]; exact hbv.out), hb.setCell (Nat.le_refl _) _⟩
    · obtain rfl : j = K := by omega
      have hback := run_bytes_back (P := Tryd.prog) (cap := j) Tryd.underlying36 Tryd.underlying5 Tryd.underlying9 H (by simp)
      by_cases hbad : j = 0 ∨ 240 < j
      · have hv : parseV (List.replicate j x) = .tuple #[strV [], strV [], strV [], .int .i64 4] := parseV_none (by rw [hpr, if_pos hbad])
        change ∀ W h, Calls _ _ _ W (fun e w' => e = .returned (parseV (List.replicate j x)) ∧ _) at P
        rw [hv, strV] at P
        clear hv hpr
        go_wp2_with fail
        refine (P _ (k hb)).mono ?_
        rintro e w1 ⟨rfl, hb1⟩
        replace hb1 := hb.trans (hb1.mono hb.size)
        clear hb P hback H
        rcases hbad with rfl | hbad
        · go_wp2_with fail
          refine (alive_any m _ (k hb1)).mono ?_
          rintro e w2 ⟨rfl, hb2⟩
          go_wp2
          go_ret
          exact ⟨rfl, hb1.trans (hb2.mono hb1.size)⟩
        · have h0 : ((j : Int) == 0) = false := by simp; omega
          go_wp2_with fail
          refine (alive_any m _ (k hb1)).mono ?_
          rintro e w2 ⟨rfl, hb2⟩
          go_wp2
          go_ret
          exact ⟨rfl, hb1.trans (hb2.mono hb1.size)⟩
      · have hv : parseV (List.replicate j x) = .tuple #[strV (List.replicate j x), strV [], strV [], .int .i64 0] := parseV_some (by rw [hpr, if_neg hbad])
        change ∀ W h, Calls _ _ _ W (fun e w' => e = .returned (parseV (List.replicate j x)) ∧ _) at P
        rw [hv] at P
        clear hv hpr
        obtain ⟨t, ht⟩ : ∃ t : ByteArray, t = ⟨(List.replicate j x).toArray⟩ := ⟨_, rfl⟩
        rw [strV, ← ht, strV] at P
        rw [← ht] at hback
        have HT := Lib.hid ht
        clear ht
        have h0 : ((j : Int) == 0) = false := by simp; omega
        go_wp2_with fail
        refine (P _ (k hb)).mono ?_
        rintro e w1 ⟨rfl, hb1⟩
        have H1 := H.below hb1 H.lt
        replace hb1 := hb.trans (hb1.mono hb.size)
        clear hb P hback H
        go_wp2_with fail
        refine (alive_any m _ (k hb1)).mono ?_
        rintro e w2 ⟨rfl, hb2⟩
        have H2 := H1.below hb2 H1.lt
        have hback := run_bytes_back (P := Tryd.prog) (cap := j) Tryd.underlying36 Tryd.underlying5 Tryd.underlying9 H2 (by simp)
        rw [← HT.out] at hback
        clear H1 H2
        go_wp2
        go_ret
        exact ⟨rfl, hb1.trans (hb2.mono hb1.size)⟩
end Go.Proofs.YtacghogdodcinaaDoor
