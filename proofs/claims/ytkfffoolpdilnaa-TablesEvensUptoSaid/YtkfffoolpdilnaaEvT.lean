/-
  Walks: whether rows have as many cells; the law TablesEvens.
-/
import Derived.Test.YtkfffoolpdilnaaEvR
namespace Go.Bd
open Go.RowKit
section
variable {β : Type}
/-- have all as many as the first one? -/
def evenB : List (List β) → Bool
  | [] => true
  | r :: l => l.all fun x => x.length == r.length
theorem evenB_iff (l : List (List β)) : evenB l = true ↔ ∀ (j : Nat) r r0, l[j]? = some r → l[0]? = some r0 → r.length = r0.length := by
  cases l with
  | nil => simp [evenB]
  | cons a l =>
    simp only [evenB, List.all_eq_true, beq_iff_eq]
    constructor
    · intro h j r r0 h1 h2
      simp only [List.getElem?_cons_zero, Option.some.injEq] at h2
      subst h2
      cases j with
      | zero => simp only [List.getElem?_cons_zero, Option.some.injEq] at h1; rw [h1]
      | succ j => exact h r (List.mem_of_getElem? (by simpa using h1))
    · intro h x hx
      obtain ⟨j, hj⟩ := List.getElem?_of_mem hx
      exact h (j + 1) x a (by simpa using hj) rfl
/-- the slice v holds slices of these lengths -/
def LenF (w : World) (B : Nat) (v : Value) (l : List (List β)) : Prop :=
  ∃ A c, v = .slice A l.length c ∧ l.length ≤ c ∧ ∀ (j : Nat) r, l[j]? = some r → ∃ b off kA kc, A = some ⟨b, off, none⟩ ∧ b < B ∧ w.cell? ⟨b, off + j, none⟩ = some (.slice kA r.length kc)
end
theorem RowsF.lens {w : World} {B : Nat} {v : Value} {l : List (List (List Sp))} (h : RowsF w (· < B) v l) : LenF w B v l := by
  obtain ⟨A, c, rfl, hc⟩ := RowF.len (R := CellsF) h
  refine ⟨A, c, rfl, hc, fun j r hj => ?_⟩
  obtain ⟨b, off, kv, h1, h2, h3, h4⟩ := RowF.at (R := CellsF) h hj
  obtain ⟨kA, kc, rfl, _⟩ := RowF.len (R := Forest) h3
  exact ⟨b, off, kA, kc, h1, h2, h4⟩
theorem RowsM.lens {w : World} {B : Nat} {v : Value} {l : List (List (List Sp))} (h : RowsM w (· < B) v l) : LenF w B v l := by
  obtain ⟨g, c, mk, rfl, hc, hF, _, _, hx⟩ := RowM.form (M := CellsM) (Q := markR) h
  refine ⟨some ⟨g, 0, none⟩, c, rfl, Nat.le_of_lt hc, fun j r hj => ?_⟩
  obtain ⟨kv, hk, h4⟩ := hx j r hj
  obtain ⟨kg, kc, _, rfl, _⟩ := RowM.form (M := Marked) (Q := markC) hk
  exact ⟨g, 0, some ⟨kg, 0, none⟩, kc, rfl, hF, by rw [Nat.zero_add]; exact h4⟩
end Go.Bd
namespace Go.Proofs.Ytkfffoolpdilnaa
open Go.RowKit Go.Bd
theorem ret_bool {a b : Bool} (h : a = b) : Ending.returned (Value.bool a) = .returned (.bool b) := by rw [h]
set_option maxRecDepth 100000 in
set_option maxHeartbeats 2000000 in
theorem even_any {β : Type} (l : List (List β)) (hl : l.length ≤ 1000000000) (v : Value) (w : World) (hF : LenF w w.heap.size v l) :
    Calls Try.prog 6 #[v] w fun e w' => e = .returned (.bool (evenB l)) ∧ Below w.heap.size w w' := by
  obtain ⟨A, c, rfl, hc, hx⟩ := hF
  have HF := Lib.hid hx
  have HE := Lib.hid (evenB_iff l)
  clear hx
  obtain ⟨n, hn⟩ : ∃ n, l.length = n := ⟨_, rfl⟩
  have HN := Lib.hid hn
  simp only [hn] at hc hl ⊢
  clear hn
  go_enter Try.func6, Try.ntmps6
  go_wp2
  go_loopg [7] n (fun q i wr => ∃ k : Nat, k + q = n ∧ i = .int .i64 (k : Int) ∧ Hid (∀ (j : Nat) r r0, j < k → l[j]? = some r → l[0]? = some r0 → r.length = r0.length) ∧ Below w.heap.size w wr)
  case atStart => exact ⟨0, by omega, rfl, fun j _ _ h => by omega, Below.refl _ _⟩
  case round =>
    obtain ⟨k, hk, rfl, HT, hbl⟩ := hrel
    by_cases hlt : k < n
    · obtain ⟨r, hr⟩ : ∃ x, l[k]? = some x := ⟨_, List.getElem?_eq_getElem (by rw [HN.out]; exact hlt)⟩
      obtain ⟨r0, hr0⟩ : ∃ x, l[0]? = some x := ⟨_, List.getElem?_eq_getElem (by rw [HN.out]; omega)⟩
      obtain ⟨b, off, kA, kc, rfl, hb1, c1⟩ := HF.out k r hr
      obtain ⟨b', off', kA0, kc0, e, _, c0⟩ := HF.out 0 r0 hr0
      injection e with e
      injection e with e1 e2
      subst e1 e2
      rw [Nat.add_zero] at c0
      have hrb := hbl.size
      replace c1 := (hbl.cell (p := ⟨b, off + k, none⟩) hb1).trans c1
      replace c0 := (hbl.cell (p := ⟨b, off, none⟩) hb1).trans c0
      have c2 := cellAlloc (.cells #[.slice kA r.length kc] 30) c0
      have hbl2 := hbl.alloc hrb (.cells #[.slice kA r.length kc] 30)
      have HR := Lib.hid hr
      have HR0 := Lib.hid hr0
      clear hr hr0
      by_cases hst : r.length = r0.length
      · have HST := Lib.hid hst
        rw [hst] at c1 c2 hbl2
        clear hst
        go_wp2
        go_quiet (fail)
        go_wp2
        have hb2 := below_drewN hbl2 nq
        go_roundg (gk - 1)
        case measure => omega
        case rel =>
          refine ⟨k + 1, by omega, by go_num, fun j x x0 hj h1 h2 => ?_, hb2⟩
          by_cases hjk : j < k
          · exact HT.out j x x0 hjk h1 h2
          · have hjk : j = k := by omega
            subst hjk
            have h3 := HR.out
            have h4 := HR0.out
            rw [h1] at h3
            rw [h2] at h4
            rw [Option.some.inj h3, Option.some.inj h4]
            exact HST.out
      · have e2 : ((r.length : Int) != (r0.length : Int)) = true := by simp; omega
        have e1 : ((r.length : Int) == (r0.length : Int)) = false := by simp; omega
        have HST := Lib.hid hst
        clear hst
        go_wp2
        go_quiet (fail)
        go_wp2
        have hb2 := below_drewN hbl2 nq
        go_ret
        refine ⟨ret_bool ?_, hb2⟩
        exact (Bool.eq_false_iff.2 fun h => HST.out ((HE.out.1 h) k r r0 HR.out HR0.out)).symm
    · obtain rfl : k = n := by omega
      go_wp2
      go_ret
      refine ⟨ret_bool ((HE.out.2 fun j r r0 h1 h2 => HT.out j r r0 (by have := (List.getElem?_eq_some_iff.1 h1).1; rw [HN.out] at this; exact this) h1 h2).symm), hbl⟩
set_option maxRecDepth 100000 in
set_option maxHeartbeats 2000000 in
theorem refEven_any {β : Type} (l : List (List β)) (hl : l.length ≤ 1000000000) (v : Value) (w : World) (hF : LenF w w.heap.size v l) :
    Calls Try.prog 7 #[v] w fun e w' => e = .returned (.bool (evenB l)) ∧ Below w.heap.size w w' := by
  obtain ⟨A, c, rfl, hc, hx⟩ := hF
  have HF := Lib.hid hx
  have HE := Lib.hid (evenB_iff l)
  clear hx
  obtain ⟨n, hn⟩ : ∃ n, l.length = n := ⟨_, rfl⟩
  have HN := Lib.hid hn
  simp only [hn] at hc hl ⊢
  clear hn
  go_enter Try.func7, Try.ntmps7
  go_wp2
  go_loopg [3] n (fun q i wr => ∃ k : Nat, k + q = n + 1 ∧ 1 ≤ k ∧ i = .int .i64 (k : Int) ∧ Hid (∀ (j : Nat) r r0, j < k → l[j]? = some r → l[0]? = some r0 → r.length = r0.length) ∧ Below w.heap.size w wr)
  case atStart =>
    refine ⟨1, by omega, Nat.le_refl _, rfl, fun j r r0 hj h1 h2 => ?_, Below.refl _ _⟩
    obtain rfl : j = 0 := by omega
    rw [h1] at h2
    rw [Option.some.inj h2]
  case round =>
    obtain ⟨k, hk, hk1, rfl, HT, hbl⟩ := hrel
    by_cases hlt : k < n
    · obtain ⟨r, hr⟩ : ∃ x, l[k]? = some x := ⟨_, List.getElem?_eq_getElem (by rw [HN.out]; exact hlt)⟩
      obtain ⟨r0, hr0⟩ : ∃ x, l[0]? = some x := ⟨_, List.getElem?_eq_getElem (by rw [HN.out]; omega)⟩
      obtain ⟨b, off, kA, kc, rfl, hb1, c1⟩ := HF.out k r hr
      obtain ⟨b', off', kA0, kc0, e, _, c0⟩ := HF.out 0 r0 hr0
      injection e with e
      injection e with e1 e2
      subst e1 e2
      rw [Nat.add_zero] at c0
      have hrb := hbl.size
      replace c1 := (hbl.cell (p := ⟨b, off + k, none⟩) hb1).trans c1
      replace c0 := (hbl.cell (p := ⟨b, off, none⟩) hb1).trans c0
      have HR := Lib.hid hr
      have HR0 := Lib.hid hr0
      clear hr hr0
      by_cases hst : r.length = r0.length
      · have HST := Lib.hid hst
        rw [hst] at c1
        clear hst
        go_wp2
        go_quiet (fail)
        go_wp2
        have hb2 := below_drewN hbl nq
        go_roundg (gk - 1)
        case measure => omega
        case rel =>
          refine ⟨k + 1, by omega, by omega, by go_num, fun j x x0 hj h1 h2 => ?_, hb2⟩
          by_cases hjk : j < k
          · exact HT.out j x x0 hjk h1 h2
          · have hjk : j = k := by omega
            subst hjk
            have h3 := HR.out
            have h4 := HR0.out
            rw [h1] at h3
            rw [h2] at h4
            rw [Option.some.inj h3, Option.some.inj h4]
            exact HST.out
      · have e2 : ((r.length : Int) != (r0.length : Int)) = true := by simp; omega
        have e1 : ((r.length : Int) == (r0.length : Int)) = false := by simp; omega
        have HST := Lib.hid hst
        clear hst
        go_wp2
        go_quiet (fail)
        go_wp2
        have hb2 := below_drewN hbl nq
        go_ret
        refine ⟨ret_bool ?_, hb2⟩
        exact (Bool.eq_false_iff.2 fun h => HST.out ((HE.out.1 h) k r r0 HR.out HR0.out)).symm
    · go_wp2
      go_ret
      refine ⟨ret_bool ((HE.out.2 fun j r r0 h1 h2 => HT.out j r r0 (by have := (List.getElem?_eq_some_iff.1 h1).1; rw [HN.out] at this; omega) h1 h2).symm), hbl⟩
set_option maxRecDepth 100000 in
set_option maxHeartbeats 2000000 in
theorem tablesEvens_true (v : Value) (l : List (List (List Sp))) (w : World) (hF : RowsF w (· < w.heap.size) v l) (hz : szX (szX szL) l ≤ 1048576) :
    Calls Try.prog 3 #[v] w fun e w' => e = .returned (.bool true) ∧ Below w.heap.size w w' := by
  obtain ⟨A, c, rfl, hc⟩ := RowF.len (R := CellsF) hF
  have hlm := szX_len (szX szL) l
  have cs := size_Rows l hz _ w _ hF (Nat.le_refl _)
  have HF := Lib.hid hF
  have keep : ∀ {w' : World}, Below w.heap.size w w' → RowsF w' (· < w'.heap.size) (.slice A l.length c) l := fun {w'} hb => RowsF.stays.go hF (S := fun k => w.heap.size ≤ k) ⟨hb.os, hb.tape, hb.output, hb.size, fun k _ hs => hb.block k (Nat.lt_of_not_le hs)⟩ (fun b h => Nat.lt_of_lt_of_le h hb.size) (fun b h hs => by have h1 : b < w.heap.size := h; omega)
  have KP := Lib.hid (fun w' (hb : Below w.heap.size w w') => keep hb)
  obtain ⟨n, hn⟩ : ∃ n, l.length = n := ⟨_, rfl⟩
  simp only [hn] at hc hlm cs HF KP ⊢
  obtain ⟨sz, hsz⟩ : ∃ sz, szX (szX szL) l = sz := ⟨_, rfl⟩
  have HSZ := Lib.hid hsz
  have HN := Lib.hid hn
  rw [hsz] at hz hlm cs
  clear hF keep hsz hn
  go_enter Try.func3, Try.ntmps3
  go_wp2_with fail
  refine cs.mono ?_
  clear cs
  rintro e w1 ⟨rfl, hb1⟩
  have hs1 := hb1.size
  have HB1 := Lib.hid hb1
  clear hb1
  rcases Nat.lt_or_ge 10000 sz with hbig | hbig
  · go_wp2
    go_ret
    exact ⟨rfl, HB1.out⟩
  · have ct := twin_Rows l (by rw [HSZ.out]; exact hz) _ w1 _ (KP.out w1 HB1.out) (Nat.le_refl _)
    go_wp2_with fail
    refine ct.mono ?_
    clear ct
    rintro e w2 ⟨t, rfl, ht2, hb2⟩
    have hs2 := hb2.size
    have HB2 := Lib.hid (HB1.out.trans (hb2.mono hs1))
    obtain ⟨tg, tc, _, rfl, htc, _⟩ := RowM.form (M := CellsM) (Q := markR) ht2
    have ht2' : RowsM w2 (· < w2.heap.size) (.slice (some ⟨tg, 0, none⟩) l.length tc) l := RowsM.stays.go ht2 (Chg.refl w2 (fun _ => False)) (fun b h => h.2) (fun _ _ h => h)
    have HT := Lib.hid ht2'
    rw [HN.out] at htc HT ⊢
    have ce := even_any l (by rw [HN.out]; omega) (.slice (some ⟨tg, 0, none⟩) n tc) w2 (by have h := ht2'.lens; rw [HN.out] at h; exact h)
    clear ht2 hb2 ht2'
    go_wp2_with fail
    refine ce.mono ?_
    clear ce
    rintro e w3 ⟨rfl, hb3⟩
    have hs3 := hb3.size
    have HB3 := Lib.hid (HB2.out.trans (hb3.mono (by omega)))
    have HT3 := Lib.hid (RowsM.stays.go (G := (· < w3.heap.size)) HT.out (S := fun k => w2.heap.size ≤ k) ⟨hb3.os, hb3.tape, hb3.output, hb3.size, fun k _ hs => hb3.block k (Nat.lt_of_not_le hs)⟩ (fun b h => Nat.lt_of_lt_of_le h hb3.size) (fun b h hs => by have h1 : b < w2.heap.size := h; omega))
    have cr := refEven_any l (by rw [HN.out]; omega) (.slice A n c) w3 (KP.out w3 HB3.out).lens
    clear hb3 HT
    go_wp2_with fail
    refine cr.mono ?_
    clear cr
    rintro e w4 ⟨rfl, hb4⟩
    have hs4 := hb4.size
    have HB4 := Lib.hid (HB3.out.trans (hb4.mono (by omega)))
    have HT4 := Lib.hid (RowsM.stays.go (G := (· < w4.heap.size)) HT3.out (S := fun k => w3.heap.size ≤ k) ⟨hb4.os, hb4.tape, hb4.output, hb4.size, fun k _ hs => hb4.block k (Nat.lt_of_not_le hs)⟩ (fun b h => Nat.lt_of_lt_of_le h hb4.size) (fun b h hs => by have h1 : b < w3.heap.size := h; omega))
    have cl := left_Rows l (by rw [HSZ.out]; exact hz) (.slice (some ⟨tg, 0, none⟩) n tc) (.slice A n c) w4 w4.heap.size HT4.out (KP.out w4 HB4.out) (Nat.le_refl _)
    clear hb4 HT3
    generalize evenB l = ev at *
    go_wp2_with fail
    refine cl.mono ?_
    clear cl
    rintro e w5 ⟨rfl, hb5⟩
    have HB5 := Lib.hid (HB4.out.trans (hb5.mono (by omega)))
    clear hb5
    go_wp2
    go_ret
    exact ⟨rfl, HB5.out⟩
end Go.Proofs.Ytkfffoolpdilnaa
