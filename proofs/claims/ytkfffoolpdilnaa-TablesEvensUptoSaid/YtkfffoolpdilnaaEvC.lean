/-
  Walks: Cells of a table: how much they have (..Size), in memory of their own with a mark behind (Twin..), still what they were made of (Left..).
-/
import Derived.Test.YtkfffoolpdilnaaEwL
import Derived.Test.YtkfffoolpdilnaaEvZ
import Derived.Test.YtkfffoolpdilnaaTw1
namespace Go.Proofs.Ytkfffoolpdilnaa
open Go.RowKit Go.Bd
theorem Cell_info : (Try.prog.info? 34).map (fun i => (i.zero, i.size, i.bytes)) = some (some (.agg #[.slice none 0 0]), 1, 24) := by kernel_rfl
theorem Cell_size : (Try.prog.info? 34).map (·.size) = some 1 := by kernel_rfl
theorem make_Cell (n : Nat) (w : World) (hn : n ≤ 1000000000) : (Instr.makeSlice 28 (.int .i64 0) (.int .i64 n)).run Try.prog w = .ok (.slice (some ⟨w.heap.size, 0, none⟩) 0 n) (w.alloc (.cells (madeCells #[.slice none 0 0] (n * 1)) 34)) := by
  obtain ⟨i0, hi, hz0, hz1, hz2⟩ := info_parts Cell_info
  have h := run_make (P := Try.prog) w 28 34 i0 _ Try.underlying28 hi hz0 .i64 .i64 0 n (by omega) (by omega) (by rw [hz2]; omega) (by omega)
  rw [hz1] at h
  simpa [Value.cells] using h
theorem isize_Cell : ∀ (x : List Sp), szL x ≤ 1048576 → ∀ (v : Value) (w : World) (B : Nat), Forest w (· < B) v x → B ≤ w.heap.size →
    Calls Try.prog 18 #[v] w fun e w' => e = .returned (.int .i64 (szL x : Int)) ∧ Below B w w' := fun x hz v w B hF hB => size_any _ x (Nat.le_refl _) hz v w B hF hB
theorem itwin_Cell : ∀ (x : List Sp), szL x ≤ 1048576 → ∀ (v : Value) (w : World) (B : Nat), Forest w (· < B) v x → B ≤ w.heap.size →
    Calls Try.prog 19 #[v] w fun e w' => ∃ v', e = .returned v' ∧ Marked w' (fun b => w.heap.size ≤ b ∧ b < w'.heap.size) v' x ∧ Below w.heap.size w w' := fun x hz v w B hF hB => twin_any _ x (Nat.le_refl _) (by have := many_szL x; omega) v w B hF hB
theorem ileft_Cell : ∀ (x : List Sp), szL x ≤ 1048576 → ∀ (t v : Value) (w : World) (B : Nat), Marked w (· < B) t x → Forest w (· < B) v x → B ≤ w.heap.size →
    Calls Try.prog 20 #[t, v] w fun e w' => e = .returned (.bool true) ∧ Below B w w' := fun x hz t v w B hT hF hB => left_any _ x (Nat.le_refl _) (by have := many_szL x; omega) t v w B hT hF hB
set_option maxRecDepth 100000 in
set_option maxHeartbeats 2000000 in
theorem size1_Cell (x : List Sp) (hz : 1 + szL x ≤ 1048576) (v : Value) (w : World) (B : Nat) (hF : Forest w (· < B) v x) (hB : B ≤ w.heap.size) :
    Calls Try.prog 15 #[.agg #[v]] w fun e w' => e = .returned (.int .i64 ((1 + szL x : Nat) : Int)) ∧ Below B w w' := by
  obtain ⟨A, c, rfl, hc⟩ := Forest.len hF
  have hal := (Below.refl B w).alloc hB (.cells #[.slice A x.length c] 34)
  have ci := isize_Cell x (by omega) _ _ B (Forest.stays.under hF hal (fun _ h => h)) (by simp; omega)
  have HAL := Lib.hid hal
  generalize szL x = kz at ci hz ⊢
  clear hF hal
  generalize x.length = kl at ci hc HAL ⊢
  go_enter Try.func15, Try.ntmps15
  go_wp2_with fail
  refine ci.mono ?_
  clear ci
  rintro e w2 ⟨rfl, hb2⟩
  have HB2 := Lib.hid (HAL.out.trans hb2)
  clear hb2
  go_wp2
  go_ret
  exact ⟨by first | rfl | (push_cast; rfl) | go_num, HB2.out⟩
set_option maxRecDepth 100000 in
set_option maxHeartbeats 2000000 in
theorem size_Cells (l : List (List Sp)) (hz : szX szL l ≤ 1048576) (v : Value) (w : World) (B : Nat) (hF : CellsF w (· < B) v l) (hB : B ≤ w.heap.size) :
    Calls Try.prog 12 #[v] w fun e w' => e = .returned (.int .i64 (szX szL l : Int)) ∧ Below B w w' := by
  obtain ⟨A, c, rfl, hc⟩ := RowF.len (R := Forest) hF
  have hlm := szX_len szL l
  have HF := Lib.hid hF
  clear hF
  obtain ⟨n, hn⟩ : ∃ n, l.length = n := ⟨_, rfl⟩
  obtain ⟨mm, hmm⟩ : ∃ mm, szX szL l = mm := ⟨_, rfl⟩
  have HN := Lib.hid hn
  have HMM := Lib.hid hmm
  simp only [hn, hmm] at hc hlm hz HF ⊢
  clear hn hmm
  go_enter Try.func12, Try.ntmps12
  go_wp2
  go_loopg [3, 4] n (fun q vn vi wr => ∃ k a : Nat, k + q = n ∧ vi = .int .i64 (k : Int) ∧ vn = .int .i64 (a : Int) ∧ a ≤ mm ∧ Hid (a + k = n + szX szL (l.take k) ∧ Below B w wr))
  case atStart => exact ⟨0, n, by omega, rfl, rfl, by omega, by simp [szX], Below.refl _ _⟩
  case round =>
    obtain ⟨k, a, hk, rfl, rfl, ham, HR⟩ := hrel
    by_cases hlt : k < n
    · obtain ⟨x, hx⟩ : ∃ x, l[k]? = some x := ⟨_, List.getElem?_eq_getElem (by rw [HN.out]; exact hlt)⟩
      obtain ⟨b1, off, kv, rfl, hb1, hkF, p0⟩ := RowF.at (R := Forest) HF.out hx
      have hbl := HR.out.2
      replace p0 := (hbl.cell (p := ⟨b1, off + k, none⟩) hb1).trans p0
      have hgt := szX_get (s := szL) hx
      rw [HMM.out, HN.out] at hgt
      have hrb := hbl.size
      have htk := szX_take (s := szL) hx
      have hkF2 := Forest.stays.under hkF hbl (fun _ h => h)
      obtain ⟨kA, kc, rfl, _⟩ := Forest.len hkF
      have ci := size1_Cell x (by omega) _ wr B hkF2 (by omega)
      have hsum : a + (1 + szL x) + (k + 1) = n + szX szL (l.take (k + 1)) := by have := HR.out.1; omega
      have hbd := szX_len szL (l.take k)
      rw [List.length_take, HN.out, Nat.min_eq_left (by omega)] at hbd
      have HSM := Lib.hid hsum
      have ham2 : a + (1 + szL x) ≤ mm := by have := HR.out.1; omega
      have ham3 : (a : Int) ≤ 1048576 := by omega
      generalize hmk : 1 + szL x = mk at ci ham2 HSM
      clear hx hkF hkF2 hbl htk hbd hgt hsum hmk
      go_wp2_with fail
      refine ci.mono ?_
      clear ci
      rintro e w2 ⟨rfl, hb2⟩
      have HB2 := Lib.hid (HR.out.2.trans hb2)
      clear hb2
      go_wp2
      go_roundg (gk - 1)
      case measure => omega
      case rel => exact ⟨k + 1, a + mk, by omega, by go_num, by go_num, ham2, HSM.out, HB2.out⟩
    · obtain rfl : k = n := by omega
      have ha : a = mm := by
        have h1 := HR.out.1
        rw [List.take_of_length_le (by rw [HN.out]; exact Nat.le_refl _), HMM.out] at h1
        omega
      subst ha
      go_wp2
      go_ret
      exact ⟨rfl, HR.out.2⟩
set_option maxRecDepth 100000 in
set_option maxHeartbeats 4000000 in
theorem twin1_Cell (x : List Sp) (hz : szL x ≤ 1048576) (v : Value) (w : World) (B : Nat) (hF : Forest w (· < B) v x) (hB : B ≤ w.heap.size) :
    Calls Try.prog 16 #[.agg #[v]] w fun e w' => ∃ v', e = .returned (.agg #[v']) ∧ Marked w' (fun b => w.heap.size ≤ b ∧ b < w'.heap.size) v' x ∧ Below w.heap.size w w' := by
  obtain ⟨A, c, rfl, hc⟩ := Forest.len hF
  obtain ⟨w0, hw0⟩ : ∃ w0, (w.alloc (.cells #[.slice A x.length c] 34)).alloc (.cells #[.slice none 0 0] 34) = w0 := ⟨_, rfl⟩
  have hb0 : Below w.heap.size w w0 := by rw [← hw0]; exact ((Below.refl _ _).alloc (Nat.le_refl _) _).alloc (by simp) _
  have hX : Holds w0 w.heap.size 34 #[.slice A x.length c] := by rw [← hw0]; exact (Holds.new w _ _).alloc _
  have hR : Holds w0 (w.heap.size + 1) 34 #[.slice none 0 0] := by
    rw [← hw0]
    have h := Holds.new (w.alloc (.cells #[.slice A x.length c] 34)) 34 #[.slice none 0 0]
    rw [World.size_alloc] at h
    exact h
  have hs0 : w0.heap.size = w.heap.size + 2 := by rw [← hw0]; simp
  have HFO := Lib.hid hF
  have HB0 := Lib.hid hb0
  have x0 := hX.cell 0
  clear hF
  go_enter Try.func16, Try.ntmps16
  go_wp2_with fail
  clear hw0 hb0
  have hc0 : Forest w0 (· < B) (.slice A x.length c) x := Forest.stays.under HFO.out (HB0.out.mono hB) (fun _ h => h)
  refine (itwin_Cell x hz _ _ B hc0 (by omega)).mono ?_
  rintro e w2 ⟨v', rfl, ht2, hb2⟩
  have hsz2 := hb2.size
  have hR2 := holdsUnder hR hb2
  have HB2 := Lib.hid (HB0.out.trans (hb2.mono (by omega)))
  have HT2 := Lib.hid ht2
  have hsh : ∃ tg tc, v' = .slice (some ⟨tg, 0, none⟩) x.length tc := by obtain ⟨tg, tc, h⟩ := Marked.form ht2; first | exact ⟨tg, tc, h.1⟩ | (obtain ⟨_, h, _⟩ := h; exact ⟨tg, tc, h⟩)
  obtain ⟨tg, tc, rfl⟩ := hsh
  clear ht2 hb2 hX hR hc0 x0
  have a0 := hR2.cell 0
  have f0 := hR2.free 0
  obtain ⟨w9, hw9⟩ : ∃ w9, w2.setCell ⟨w.heap.size + 1, 0, none⟩ (.slice (some ⟨tg, 0, none⟩) x.length tc) = w9 := ⟨_, rfl⟩
  have hch : Chg w2 w9 (fun k => k = w.heap.size + 1) := by rw [← hw9]; exact Chg.set w2 _ _
  have hR9 : Holds w9 (w.heap.size + 1) 34 #[.slice (some ⟨tg, 0, none⟩) x.length tc] := by rw [← hw9]; exact hR2.set 0 _
  have HT9 := Lib.hid (Marked.stays.go (G := fun b => w.heap.size ≤ b ∧ b < w9.heap.size) HT2.out hch (fun b h => ⟨by have h1 := h.1; omega, Nat.lt_of_lt_of_le h.2 hch.size⟩) (fun b h e => by have h1 := h.1; omega))
  have HB9 := Lib.hid (HB2.out.trans (hch.toBelow (by omega) (fun k e => by omega)))
  clear hch hR2 HT2 HB2
  go_wp2
  (try simp only [Exit.inBlock, Exit.then])
  refine bodyPost_ret (results_row rfl _ _ (w.heap.size + 1) _ _ _ _ rfl hR9 Try.underlying34 rfl Cell_size) rfl ?_
  exact ⟨_, rfl, HT9.out, HB9.out⟩
set_option maxRecDepth 100000 in
set_option maxHeartbeats 4000000 in
theorem twin_Cells (l : List (List Sp)) (hz : szX szL l ≤ 1048576) (v : Value) (w : World) (B : Nat) (hF : CellsF w (· < B) v l) (hB : B ≤ w.heap.size) :
    Calls Try.prog 13 #[v] w fun e w' => ∃ v', e = .returned v' ∧ CellsM w' (fun b => w.heap.size ≤ b ∧ b < w'.heap.size) v' l ∧ Below w.heap.size w w' := by
  obtain ⟨A, c, rfl, hc⟩ := RowF.len (R := Forest) hF
  have hlm := szX_len szL l
  have HF := Lib.hid hF
  clear hF
  obtain ⟨n, hn⟩ : ∃ n, l.length = n := ⟨_, rfl⟩
  have HN := Lib.hid hn
  simp only [hn] at hc hlm HF ⊢
  clear hn
  have mf := make_Cell (n + 1) w (by omega)
  have hmz := madeCells_size #[.slice none 0 0] ((n + 1) * 1)
  generalize madeCells #[.slice none 0 0] ((n + 1) * 1) = zc at mf hmz
  have HZ := Lib.hid hmz
  rw [show (((n + 1 : Nat) : Int)) = (n : Int) + 1 by push_cast; rfl] at mf
  clear hmz
  obtain ⟨i0, hi0, hz0, hz1, hz2⟩ := info_parts Cell_info
  go_enter Try.func13, Try.ntmps13
  go_wp2
  clear mf
  go_loopg [3, 4] n (fun q vt vi wr => ∃ k g cap : Nat, k + q = n ∧ vi = .int .i64 (k : Int) ∧ vt = .slice (some ⟨g, 0, none⟩) k cap ∧ Hid (∃ kvs, Tw1 Marked 34 w wr g cap k kvs l))
  case atStart =>
    refine ⟨0, w.heap.size, n + 1, by omega, rfl, rfl, [], rfl, ⟨rfl, .inr ⟨w.heap.size, n + 1, zc, rfl, Nat.le_refl _, heap_alloc_new w _, Nat.zero_le _, by unfold maxLen; omega, HZ.out, rfl⟩⟩, fun j x kv _ h => by simp at h, ⟨Nat.le_refl _, by simp⟩, (Below.refl _ _).alloc (Nat.le_refl _) _⟩
  case round =>
    obtain ⟨k, g, cap, hk, rfl, rfl, HR⟩ := hrel
    obtain ⟨kvs, hst⟩ := HR.out
    have hkc := own_at hst.ho
    have hrb := hst.hb.size
    obtain ⟨hg1, hg2⟩ := hst.hg
    by_cases hlt : k < n
    · obtain ⟨x, hx⟩ : ∃ x, l[k]? = some x := ⟨_, List.getElem?_eq_getElem (by rw [HN.out]; exact hlt)⟩
      obtain ⟨b1, off, kv, rfl, hb1, hkF, p0⟩ := RowF.at (R := Forest) HF.out hx
      have hbl := hst.hb.mono hB
      replace p0 := (hbl.cell (p := ⟨b1, off + k, none⟩) hb1).trans p0
      have hgt := szX_get (s := szL) hx
      have hkF2 := Forest.stays.under hkF hbl (fun _ h => h)
      obtain ⟨kA, kc, rfl, _⟩ := Forest.len hkF
      have ci := twin1_Cell x (by omega) _ wr B hkF2 (by omega)
      have HST := Lib.hid hst
      have HX := Lib.hid hx
      clear hx hkF hkF2 hbl hst HR hgt
      go_wp2_with fail
      refine ci.mono ?_
      clear ci
      rintro e w2 ⟨v', rfl, ht2, hb2⟩
      have hs2 := hb2.size
      have hown2 := (Chg.below hb2 (fun _ => False)).owns HST.out.ho (fun _ _ h => h)
      have HT2 := Lib.hid ht2
      have HB2 := Lib.hid hb2
      have hsh : ∃ tg tc, v' = .slice (some ⟨tg, 0, none⟩) x.length tc := by obtain ⟨tg, tc, h⟩ := Marked.form ht2; first | exact ⟨tg, tc, h.1⟩ | (obtain ⟨_, h, _⟩ := h; exact ⟨tg, tc, h⟩)
      obtain ⟨tg, tc, rfl⟩ := hsh
      clear ht2 hb2
      go_wp2_with (at_builtin; refine wpList_append_lies _ rfl _ _ 28 rfl w.heap.size 34 i0 _ 1 24 Try.underlying28 hi0 hz0 hz1 hz2 rfl (by omega) (.slice (some ⟨g, 0, none⟩) k cap) k kvs (by rfl) (hown2.alloc _) ⟨w2.heap.size, 0, none⟩ 1 1 [.slice (some ⟨tg, 0, none⟩) x.length tc] (by rfl) (by rfl) (World.news_of_block (cs := #[.slice (some ⟨tg, 0, none⟩) x.length tc]) (t := 34) (fr := (0, 0)) (heap_alloc_new w2 _)) (by simp [Value.oneCell']) (by omega) (by unfold maxLen; omega) (by omega) (by simp; omega) (w2.heap.size + 1) (by simp) ?_; intro g1 cap1 w3 hown3 hgrow hat hlt3)
      have HN3 := Lib.hid (tw1_next Marked.stays HST.out HX.out HB2.out HT2.out hown3 hgrow hat hlt3)
      clear hown3 hgrow hat hlt3 hown2
      go_roundg (gk - 1)
      case measure => omega
      case rel => exact ⟨k + 1, g1, cap1, by omega, by go_num, rfl, _, HN3.out⟩
    · obtain rfl : k = n := by omega
      have HST := Lib.hid hst
      have hown := hst.ho
      clear hst HR
      go_wp2_with (at_builtin; refine wpList_append_lies _ rfl _ _ 28 rfl w.heap.size 34 i0 _ 1 24 Try.underlying28 hi0 hz0 hz1 hz2 rfl (by omega) (.slice (some ⟨g, 0, none⟩) k cap) k kvs (by rfl) ((hown.alloc _).alloc _) ⟨wr.heap.size + 1, 0, none⟩ 1 1 [.slice (some ⟨wr.heap.size, 0, none⟩) 1 1] (by rfl) (by rfl) (World.news_of_block (cs := #[.slice (some ⟨wr.heap.size, 0, none⟩) 1 1]) (t := 34) (fr := (0, 0)) (by have h := heap_alloc_new (wr.alloc (.cells #[.int .u8 0, .string ⟨#[115, 112, 97, 114, 101]⟩, .string ⟨#[]⟩, .string ⟨#[]⟩, .slice none 0 0] 43)) (.cells #[.slice (some ⟨wr.heap.size, 0, none⟩) 1 1] 34); rw [World.size_alloc] at h; exact h)) (by simp [Value.oneCell']) (by omega) (by unfold maxLen; omega) (by omega) (by simp; omega) (wr.heap.size + 1 + 1) (by simp) ?_; intro g1 cap1 w3 hown3 hgrow hat hlt3; have hcap3 := own_at hown3)
      have hq : markC w3 (fun b => w.heap.size ≤ b ∧ b < w3.heap.size) (.slice (some ⟨wr.heap.size, 0, none⟩) 1 1) := by
        have h0 := ((Holds.new wr 43 #[.int .u8 0, .string ⟨#[115, 112, 97, 114, 101]⟩, .string ⟨#[]⟩, .string ⟨#[]⟩, .slice none 0 0]).alloc (.cells #[.slice (some ⟨wr.heap.size, 0, none⟩) 1 1] 34))
        have h3 := (Chg.grown hgrow).holds (g := wr.heap.size) (fun e => by have h9 : wr.heap.size = g := Option.some.inj e; omega) h0
        exact forest_txt h3 ⟨by omega, h3.lt⟩
      have HM3 := Lib.hid (tw1_last Marked.stays HST.out (by rw [HN.out]) (((Chg.refl wr _).alloc _).alloc _) hown3 hgrow (hat.imp id (fun e => by rw [e]; simp)) hlt3 hq)
      clear hq
      go_ret
      exact ⟨_, rfl, by have h := HM3.out.1; rw [HN.out] at h; exact h, HM3.out.2⟩
set_option maxRecDepth 100000 in
set_option maxHeartbeats 4000000 in
theorem left1_Cell (x : List Sp) (hz : szL x ≤ 1048576) (t v : Value) (w : World) (B : Nat) (hT : Marked w (· < B) t x) (hF : Forest w (· < B) v x) (hB : B ≤ w.heap.size) :
    Calls Try.prog 17 #[.agg #[t], .agg #[v]] w fun e w' => e = .returned (.bool true) ∧ Below B w w' := by
  obtain ⟨A, c, rfl, hc⟩ := Forest.len hF
  have hsh : ∃ tg tc, t = .slice (some ⟨tg, 0, none⟩) x.length tc := by obtain ⟨tg, tc, h⟩ := Marked.form hT; first | exact ⟨tg, tc, h.1⟩ | (obtain ⟨_, h, _⟩ := h; exact ⟨tg, tc, h⟩)
  obtain ⟨tg, tc, rfl⟩ := hsh
  have hal := ((Below.refl B w).alloc hB (.cells #[.slice (some ⟨tg, 0, none⟩) x.length tc] 34)).alloc (by simp; omega) (.cells #[.slice A x.length c] 34)
  have ci := ileft_Cell x hz _ _ _ B (Marked.stays.under hT hal (fun _ h => h)) (Forest.stays.under hF hal (fun _ h => h)) (by simp; omega)
  have HAL := Lib.hid hal
  clear hT hF hal
  go_enter Try.func17, Try.ntmps17
  go_wp2_with fail
  refine ci.mono ?_
  clear ci
  rintro e w2 ⟨rfl, hb2⟩
  have HB2 := Lib.hid (HAL.out.trans hb2)
  clear hb2
  go_wp2
  go_ret
  exact ⟨rfl, HB2.out⟩
set_option maxRecDepth 100000 in
set_option maxHeartbeats 4000000 in
theorem left_Cells (l : List (List Sp)) (hz : szX szL l ≤ 1048576) (t v : Value) (w : World) (B : Nat) (hT : CellsM w (· < B) t l) (hF : CellsF w (· < B) v l) (hB : B ≤ w.heap.size) :
    Calls Try.prog 14 #[t, v] w fun e w' => e = .returned (.bool true) ∧ Below B w w' := by
  obtain ⟨A, c, rfl, hc⟩ := RowF.len (R := Forest) hF
  obtain ⟨tg, tc, mkv, rfl, htc, htB, hmc, hmq, htx⟩ := RowM.form (M := Marked) (Q := markC) hT
  have hlm := szX_len szL l
  have HF := Lib.hid hF
  have HT := Lib.hid htx
  have HMQ := Lib.hid hmq
  clear hF hT htx hmq
  obtain ⟨n, hn⟩ : ∃ n, l.length = n := ⟨_, rfl⟩
  have HN := Lib.hid hn
  simp only [hn] at hc hlm htc HF hmc ⊢
  clear hn
  have htB' : tg < B := htB
  clear htB
  have tcb : decide (tc ≤ n) = false := decide_eq_false (by omega)
  have HMC := Lib.hid hmc
  clear hmc
  go_enter Try.func14, Try.ntmps14
  go_wp2
  go_loopg [5] n (fun q i wr => ∃ k : Nat, k + q = n ∧ i = .int .i64 (k : Int) ∧ Hid (Below B w wr))
  case atStart => exact ⟨0, by omega, rfl, Below.refl _ _⟩
  case round =>
    obtain ⟨k, hk, rfl, HR⟩ := hrel
    by_cases hlt : k < n
    · obtain ⟨x, hx⟩ : ∃ x, l[k]? = some x := ⟨_, List.getElem?_eq_getElem (by rw [HN.out]; exact hlt)⟩
      obtain ⟨b2, off2, kv2, rfl, hb2, hkG, q0⟩ := RowF.at (R := Forest) HF.out hx
      obtain ⟨kv, hkT, p0⟩ := HT.out k x hx
      have hbl := HR.out
      have hrb := hbl.size
      replace p0 := (hbl.cell (p := ⟨tg, k, none⟩) htB').trans p0
      replace q0 := (hbl.cell (p := ⟨b2, off2 + k, none⟩) hb2).trans q0
      have hgt := szX_get (s := szL) hx
      have HKT := Lib.hid (Marked.stays.under hkT hbl (fun _ h => h))
      have HKG := Lib.hid (Forest.stays.under hkG hbl (fun _ h => h))
      obtain ⟨kA, kc, rfl, _⟩ := Forest.len hkG
      have hsh : ∃ sg sc, kv = .slice (some ⟨sg, 0, none⟩) x.length sc := by obtain ⟨tg, tc, h⟩ := Marked.form hkT; first | exact ⟨tg, tc, h.1⟩ | (obtain ⟨_, h, _⟩ := h; exact ⟨tg, tc, h⟩)
      obtain ⟨sg, sc, rfl⟩ := hsh
      have hzx : szL x ≤ 1048576 := by omega
      clear hx hkT hkG hbl hgt
      go_wp2
      refine wp_region_held_drew (S := (fun w' => w'.cell? ⟨tg, k, none⟩ = some (.slice (some ⟨sg, 0, none⟩) x.length sc) ∧ w'.cell? ⟨b2, off2 + k, none⟩ = some (.slice kA x.length kc))) (by kernel_rfl) ?_ (fun hHeld0 => ?_)
      · (try dsimp only)
        first | exact ⟨p0, q0⟩ | exact ⟨r0, s0⟩
      refine wpAnyH_take (i := 0) (v := ?_) rfl (by kernel_rfl) (by kernel_rfl) (by kernel_rfl) (fun _ _ _ h => h) (Or.inl ⟨by kernel_rfl, ?_⟩) (by assumption) ?_
      rotate_left
      · (intro w hSw; (try dsimp only at hSw); go_simp; (first | done | with_reducible rfl))
      (try simp only [Act.put, List.setIfInBounds_toArray, List.set_cons_zero, List.set_cons_succ])
      refine wpAnyH_take (i := 1) (v := ?_) rfl (by kernel_rfl) (by kernel_rfl) (by kernel_rfl) (fun _ _ _ h => h) (Or.inl ⟨by kernel_rfl, ?_⟩) (by assumption) ?_
      rotate_left
      · (intro w hSw; (try dsimp only at hSw); go_simp; (first | done | with_reducible rfl))
      (try simp only [Act.put, List.setIfInBounds_toArray, List.set_cons_zero, List.set_cons_succ])
      refine wpAnyH_take (i := 2) (v := ?_) rfl (by kernel_rfl) (by kernel_rfl) (by kernel_rfl) (fun _ _ _ h => h) (Or.inl ⟨by kernel_rfl, ?_⟩) (by assumption) ?_
      rotate_left
      · (intro w hSw; (try dsimp only at hSw); go_simp; (first | done | with_reducible rfl))
      (try simp only [Act.put, List.setIfInBounds_toArray, List.set_cons_zero, List.set_cons_succ])
      refine wpAnyH_take (i := 3) (v := ?_) rfl (by kernel_rfl) (by kernel_rfl) (by kernel_rfl) (fun _ _ _ h => h) (Or.inl ⟨by kernel_rfl, ?_⟩) (by assumption) ?_
      rotate_left
      · (intro w hSw; (try dsimp only at hSw); go_simp; (first | done | with_reducible rfl))
      (try simp only [Act.put, List.setIfInBounds_toArray, List.set_cons_zero, List.set_cons_succ])
      refine wpAnyH_take (i := 4) (v := ?_) rfl (by kernel_rfl) (by kernel_rfl) (by kernel_rfl) (fun _ _ _ h => h) (Or.inl ⟨by kernel_rfl, ?_⟩) (by assumption) ?_
      rotate_left
      · (intro w hSw; (try dsimp only at hSw); go_simp; (first | done | with_reducible rfl))
      (try simp only [Act.put, List.setIfInBounds_toArray, List.set_cons_zero, List.set_cons_succ])
      refine wpAnyH_take (i := 5) (v := ?_) rfl (by kernel_rfl) (by kernel_rfl) (by kernel_rfl) (fun _ _ _ h => h) (Or.inl ⟨by kernel_rfl, ?_⟩) (by assumption) ?_
      rotate_left
      · (intro w hSw; (try dsimp only at hSw); go_simp; (first | done | with_reducible rfl))
      (try simp only [Act.put, List.setIfInBounds_toArray, List.set_cons_zero, List.set_cons_succ])
      refine wpAnyH_take (i := 6) (v := ?_) rfl (by kernel_rfl) (by kernel_rfl) (by kernel_rfl) (fun _ _ _ h => h) (Or.inl ⟨by kernel_rfl, ?_⟩) (by assumption) ?_
      rotate_left
      · (intro w hSw; (try dsimp only at hSw); go_simp; (first | done | with_reducible rfl))
      (try simp only [Act.put, List.setIfInBounds_toArray, List.set_cons_zero, List.set_cons_succ])
      refine wpAnyH_take (i := 7) (v := ?_) rfl (by kernel_rfl) (by kernel_rfl) (by kernel_rfl) (fun _ _ _ h => h) (Or.inl ⟨by kernel_rfl, ?_⟩) (by assumption) ?_
      rotate_left
      · (intro w hSw; (try dsimp only at hSw); go_simp; (first | done | with_reducible rfl))
      (try simp only [Act.put, List.setIfInBounds_toArray, List.set_cons_zero, List.set_cons_succ])
      refine wpAnyH_ready (rs := [8]) (by kernel_rfl) (by simp) ?_
      refine AllReadyH.cons rfl (fun K hK => ?_) AllReadyH.nil
      go_simp
      refine (left1_Cell x hzx _ _ wr.drew B (Marked.stays.go HKT.out ((Chg.refl wr (fun _ => False)).drew) (fun _ h => h) (fun _ _ h => h)) (Forest.stays.go HKG.out ((Chg.refl wr (fun _ => False)).drew) (fun _ h => h) (fun _ _ h => h)) (by first | omega | (show B ≤ wr.heap.size; omega))).mono ?_
      rintro e w2 ⟨rfl, hb2'⟩
      have HB2 := Lib.hid (((Below.refl B wr).drew).trans hb2')
      clear hb2'
      have r0 := (HB2.out.cell (p := ⟨tg, k, none⟩) (by omega)).trans p0
      have s0 := (HB2.out.cell (p := ⟨b2, off2 + k, none⟩) (by omega)).trans q0
      go_wp2_with fail
      refine hK.out _ _ ?_ (fun hHeld1 => ?_)
      · (try dsimp only)
        first | exact ⟨p0, q0⟩ | exact ⟨r0, s0⟩
      clear hK K hHeld0
      (try simp only [Act.put, List.setIfInBounds_toArray, List.set_cons_zero, List.set_cons_succ])
      refine wpAnyH_take (i := 9) (v := ?_) rfl (by kernel_rfl) (by kernel_rfl) (by kernel_rfl) (fun _ _ _ h => h) (Or.inl ⟨by kernel_rfl, ?_⟩) (by assumption) ?_
      rotate_left
      · (intro w hSw; (try dsimp only at hSw); go_simp; (first | done | with_reducible rfl))
      (try simp only [Act.put, List.setIfInBounds_toArray, List.set_cons_zero, List.set_cons_succ])
      refine wpAnyH_done (by kernel_rfl) ?_ _
      go_wp2
      go_roundg (gk - 1)
      case measure => omega
      case rel => exact ⟨k + 1, by omega, by go_num, HR.out.trans HB2.out⟩
    · obtain rfl : k = n := by omega
      have hbl := HR.out
      have hrb := hbl.size
      have m0 := (hbl.cell (p := ⟨tg, k, none⟩) htB').trans HMC.out
      obtain ⟨mA, mc, rfl, _⟩ := Forest.len HMQ.out
      obtain ⟨mb, moff, mkA, mkc, rfl, hmB, _, _, n1, _⟩ := HMQ.out.at (j := 0) (x := txt spareB) rfl
      have n1' : wr.cell? ⟨mb, moff + 1, none⟩ = some (.string ⟨#[115, 112, 97, 114, 101]⟩) := (hbl.cell (p := ⟨mb, moff + 1, none⟩) hmB).trans (by have h := n1; simp only [Nat.zero_mul, Nat.add_zero] at h; exact h)
      simp only [List.length_cons, List.length_nil] at m0
      have n2' := cellAlloc (.cells #[.slice (some ⟨mb, moff, none⟩) 1 mc] 34) n1'
      clear n1
      clear hbl
      go_wp2
      go_ret
      exact ⟨by first | rfl | kernel_rfl, HR.out.alloc (by omega) _⟩
end Go.Proofs.Ytkfffoolpdilnaa

