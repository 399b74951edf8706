/-
  What the chapter's laws share, part 6: plain facts, memory, and walks of functions. Its conditions: those that each theorem names.
-/
import Derived.Maps.OwnSet
import Derived.StringKeys
import Derived.Carry
import Derived.Test.YtcjmfjccjhdgjaaGreatDoorKP5
set_option linter.unusedSimpArgs false
set_option linter.unusedVariables false
namespace Go.Proofs.YtcjmfjccjhdgjaaGreatDoor
open Go.RowKit Go.Bd
def RdPost (w : World) (O F : Nat → Prop) (rb : Nat) (lv : Value) (pos : Nat) (bs : List Bl) (ds : List Dg) (r : Told) (w' : World) : Prop :=
  ∃ O' F' bv' dv', Rdr w' O' F' rb lv (pos + r.1) bv' (bs ++ r.2.1) dv' (ds ++ r.2.2) ∧ Turn w w' O F O' F'
theorem hasP_len {s p : Bs} (h : Lib.hasPrefix s p = true) : p.length ≤ s.length := by
  unfold Lib.hasPrefix at h
  have := List.isPrefixOf_iff_prefix.1 h
  exact this.length_le
theorem code_shift (ls : List Ln) (pos : Nat) : codeN (ls.drop pos) 0 = codeN ls pos ∧ codeT (ls.drop pos) 0 = codeT ls pos := by unfold codeT codeN; rw [List.drop_zero]; exact ⟨rfl, rfl⟩
theorem para_shift (ls : List Ln) (pos : Nat) (s : ByteArray) : paraB (ls.drop pos) 0 s = paraB ls pos s := by unfold paraB paraT; rw [List.drop_zero]
theorem tail_len (r : List Ln) : (Lib.joinTail [32] (r.map fun x => trim x.text.data.toList)).length ≤ wtX r := by
  induction r with
  | nil => simp [Lib.joinTail, wtX]
  | cons x r ih =>
    have := trim_size x.text
    simp only [Lib.joinTail, List.map_cons, List.flatten_cons, List.length_append, List.length_cons, List.length_nil, wtX] at ih ⊢
    omega
theorem paraB_len (ls : List Ln) (pos : Nat) (s : ByteArray) : (paraB ls pos s).length ≤ s.size + wtX (ls.drop pos) := by
  have h1 := tail_len ((ls.drop pos).take (untilN (fun t => !plainL t) (ls.drop pos)))
  have h2 := untilN_take (fun t => !plainL t) (ls.drop pos)
  unfold paraB paraT
  rw [Lib.join_cons, List.length_append, ← size_list]
  omega
theorem endN_if (pos k n : Nat) (h : pos ≤ n) : pos + endN k (n - pos) = if pos + k < n then pos + k + 1 else pos + k := by unfold endN; split <;> split <;> omega
theorem ends_if {α : Type} (pos k n : Nat) (h : pos ≤ n) (a b : α) : (if k < n - pos then a else b) = if pos + k < n then a else b := by split <;> split <;> first | rfl | omega
set_option maxRecDepth 100000 in
set_option maxHeartbeats 4000000 in
theorem read_head {w : World} {O F : Nat → Prop} {rb : Nat} {lv : Value} {pos : Nat} {bv : Value} {bs : List Bl} {dv : Value} {ds : List Dg} (h : Rdr w O F rb lv pos bv bs dv ds) (f t : ByteArray) (no : Int) (s : ByteArray) (hs : s.size ≤ 100000) {m : Int} (hm : Glob m w) (h3 : ∀ k, O k → 3 ≤ k)
    (hl : bs.length ≤ 1000000) (hd : ds.length + 10 + s.size ≤ 1000000) (hA : 0 < (leadB s.data.toList 61).1) :
    Calls Tryz.prog 24 #[.pointer (some ⟨rb, 0, none⟩), .agg #[.string f, .int .i64 no, .string t], .string s] w fun e w' => e = .returned (.tuple #[]) ∧ RdPost w O F rb lv pos bs ds (headR f no s) w' := by
  have hll := lead_le s.data.toList 61
  have hl1 := leading_any s 61 (w.alloc (.cells #[.string f, .int .i64 no, .string t] 62)) hs
  unfold RdPost headR
  obtain ⟨A, hA0⟩ : ∃ A, leadB s.data.toList 61 = A := ⟨_, rfl⟩
  rw [hA0] at hl1 hA hll ⊢
  simp only []
  obtain ⟨lv1, bh⟩ := A
  simp only at hl1 hA hll ⊢
  unfold strV at hl1
  have e61 : (((61 : UInt8).toNat : Nat) : Int) = 61 := rfl
  rw [e61] at hl1
  rw [← size_list] at hll
  have hb := (Below.refl w.heap.size w).alloc (Nat.le_refl _) (.cells #[.string f, .int .i64 no, .string t] 62)
  have hX := Holds.new w 62 #[.string f, .int .i64 no, .string t]
  have HR := Lib.hid (And.intro h (And.intro hb (And.intro hX hm)))
  have hA1 : (0 : Int) < (lv1 : Int) := by omega
  obtain ⟨bt, hbt⟩ : ∃ bt : ByteArray, ⟨bh.toArray⟩ = bt := ⟨_, rfl⟩
  have hbz : bt.size ≤ s.size := by rw [← hbt, size_mk]; exact hll
  rw [hbt] at hl1 ⊢
  have hfl : (faultsOf (titleB bt.data.toList).1).length ≤ s.size := by
    have h1 := faults_le (titleB bt.data.toList).1
    have h2 := titleB_le bt.data.toList
    rw [← size_list] at h2
    omega
  clear h hb hX hm e61 hA0 hA hbt
  go_enter Tryz.func24, Tryz.ntmps24
  go_wp2_with fail
  refine hl1.mono ?_
  clear hl1
  rintro e w1 ⟨rfl, hb1⟩
  have hB1 : Below w.heap.size w w1 := HR.out.2.1.trans (hb1.mono (by simp))
  have hX1 := HR.out.2.2.1.below hb1 HR.out.2.2.1.lt
  have hB2 : Below w.heap.size w (w1.alloc (.cells #[.int .u8 1, .int .i64 (lv1 : Int), .bool false, .string ⟨#[]⟩, .string ⟨#[]⟩, .slice none 0 0, .slice none 0 0, .string ⟨#[]⟩, .int .i64 0] 35)) := hB1.alloc hB1.size _
  have hX2 := hX1.alloc (.cells #[.int .u8 1, .int .i64 (lv1 : Int), .bool false, .string ⟨#[]⟩, .string ⟨#[]⟩, .slice none 0 0, .slice none 0 0, .string ⟨#[]⟩, .int .i64 0] 35)
  obtain ⟨d0, d1, d2⟩ := cells3 hX2
  have CT := titled_any (HR.out.1.below hB2) ⟨1, lv1, false, ⟨#[]⟩, ⟨#[]⟩, [], [], ⟨#[]⟩, 0⟩ (.slice none 0 0) (rows_nil _ _) f t no bt (by omega) (HR.out.2.2.2.chg (Chg.below hB2 (fun _ => False)) (fun _ h => h.elim)) h3 hl (by omega)
  have e1 : ((1 : Nat) : Int) = 1 := rfl
  simp only [e1] at CT
  have HT : Hid (Turn w _ O F O F) := Lib.hid ⟨Chg.below hB2 O, fun _ h => .inl h, fun _ h => .inl h, fun _ h => h⟩
  clear hB1 hX1 hB2 hX2 e1 hb1
  go_wp2_with fail
  refine CT.mono ?_
  clear CT
  rintro e w3 ⟨rfl, O3, F3, bv3, dv3, hr3, ht3⟩
  have H3 := Lib.hid (And.intro hr3 ht3)
  clear hr3 ht3
  go_wp2
  (try simp only [Exit.inBlock, Exit.then])
  refine bodyPost_ret (results_none rfl _ _ _) rfl ?_
  exact ⟨rfl, O3, F3, bv3, dv3, H3.out.1, HT.out.trans H3.out.2⟩
set_option maxRecDepth 100000 in
set_option maxHeartbeats 4000000 in
theorem read_item {w : World} {O F : Nat → Prop} {rb : Nat} {lv : Value} {pos : Nat} {bv : Value} {bs : List Bl} {dv : Value} {ds : List Dg} (h : Rdr w O F rb lv pos bv bs dv ds) (f t : ByteArray) (no : Int) (s : ByteArray) (hs : s.size ≤ 100000) {m : Int} (hm : Glob m w) (h3 : ∀ k, O k → 3 ≤ k)
    (hl : bs.length ≤ 1000000) (hd : ds.length + 10 + s.size ≤ 1000000) (hA : ¬ 0 < (leadB s.data.toList 61).1) (hI : 0 < (itemB s.data.toList).1) :
    Calls Tryz.prog 24 #[.pointer (some ⟨rb, 0, none⟩), .agg #[.string f, .int .i64 no, .string t], .string s] w fun e w' => e = .returned (.tuple #[]) ∧ RdPost w O F rb lv pos bs ds (itemR f no s) w' := by
  have hl1 := leading_any s 61 (w.alloc (.cells #[.string f, .int .i64 no, .string t] 62)) hs
  have hit := fun W => item_any s W hs
  obtain ⟨A, hA0⟩ : ∃ A, leadB s.data.toList 61 = A := ⟨_, rfl⟩
  rw [hA0] at hl1 hA
  obtain ⟨lv1, bh⟩ := A
  simp only at hl1 hA
  obtain rfl : lv1 = 0 := by omega
  unfold strV at hl1
  have e61 : (((61 : UInt8).toNat : Nat) : Int) = 61 := rfl
  rw [e61] at hl1
  have e0 : ((0 : Nat) : Int) = 0 := rfl
  rw [e0] at hl1
  have hb := (Below.refl w.heap.size w).alloc (Nat.le_refl _) (.cells #[.string f, .int .i64 no, .string t] 62)
  have hX := Holds.new w 62 #[.string f, .int .i64 no, .string t]
  unfold RdPost itemR
  have hiz : (itemB s.data.toList).2.2.length ≤ s.size := by
    have h1 := trim_size s
    unfold itemB
    split
    · exact Nat.le_trans (lead_le _ _) h1
    · split
      · exact Nat.le_trans (lead_le _ _) h1
      · simp
  obtain ⟨I, hI0⟩ : ∃ I, itemB s.data.toList = I := ⟨_, rfl⟩
  rw [hI0] at hit hI hiz ⊢
  obtain ⟨lvl, ord, it⟩ := I
  simp only at hit hI hiz ⊢
  unfold strV at hit
  have hd1 : it = (⟨it.toArray⟩ : ByteArray).data.toList := by simp
  rw [hd1]
  obtain ⟨bt, hbt⟩ : ∃ bt : ByteArray, ⟨it.toArray⟩ = bt := ⟨_, rfl⟩
  have hbz : bt.size ≤ s.size := by rw [← hbt, size_mk]; exact hiz
  rw [hbt] at hit ⊢
  have hfl : (faultsOf bt.data.toList).length ≤ s.size := by
    have h1 := faults_le bt.data.toList
    rw [← size_list] at h1
    omega
  have hI1 : (0 : Int) < (lvl : Int) := by omega
  have hxl := hX.lt
  obtain ⟨n, hn⟩ : ∃ n, w.heap.size = n := ⟨_, rfl⟩
  have hnO : ¬ O n := fun e => by have := h.ltO n e; omega
  have HR := Lib.hid (And.intro h (And.intro hb (And.intro hX hm)))
  clear h hb hX hm e61 hA0 hA hI hI0 hd1 hbt e0
  go_enter Tryz.func24, Tryz.ntmps24
  go_wp2_with fail
  refine hl1.mono ?_
  clear hl1
  rintro e w1 ⟨rfl, hb1⟩
  have hB1 : Below w.heap.size w w1 := HR.out.2.1.trans (hb1.mono (by simp))
  have hX1 := HR.out.2.2.1.below hb1 HR.out.2.2.1.lt
  go_wp2_with fail
  refine (hit _).mono ?_
  clear hit
  rintro e w2 ⟨rfl, hb2⟩
  have hB2 : Below w.heap.size w w2 := hB1.trans (hb2.mono hB1.size)
  have hX2 := hX1.below hb2 hX1.lt
  have hB3 : Below w.heap.size w (w2.alloc (.cells #[.int .u8 3, .int .i64 (lvl : Int), .bool ord, .string ⟨#[]⟩, .string ⟨#[]⟩, .slice none 0 0, .slice none 0 0, .string ⟨#[]⟩, .int .i64 0] 35)) := hB2.alloc hB2.size _
  have hX3 := hX2.alloc (.cells #[.int .u8 3, .int .i64 (lvl : Int), .bool ord, .string ⟨#[]⟩, .string ⟨#[]⟩, .slice none 0 0, .slice none 0 0, .string ⟨#[]⟩, .int .i64 0] 35)
  have hN3 := Holds.new w2 35 #[.int .u8 3, .int .i64 (lvl : Int), .bool ord, .string ⟨#[]⟩, .string ⟨#[]⟩, .slice none 0 0, .slice none 0 0, .string ⟨#[]⟩, .int .i64 0]
  obtain ⟨d0, d1, d2⟩ := cells3 hX3
  have hr3 := HR.out.1.below hB3
  have hnl2 := hX2.lt
  have CS := bspans_any hr3 f t no bt (by omega) (HR.out.2.2.2.chg (Chg.below hB3 (fun _ => False)) (fun _ h => h.elim)) (by omega)
  have hbO : ¬ O w2.heap.size := fun e => by have := HR.out.1.ltO _ e; have := hB2.size; omega
  have hbF : ¬ F w2.heap.size := fun e => by have := HR.out.1.ltF _ e; have := hB2.size; omega
  have hbn : w.heap.size ≤ w2.heap.size := hB2.size
  have hT3 : Turn w _ O F O F := ⟨Chg.below hB3 O, fun _ h => .inl h, fun _ h => .inl h, fun _ h => h⟩
  obtain ⟨nb, hnb⟩ : ∃ nb, w2.heap.size = nb := ⟨_, rfl⟩
  rw [hnb] at hN3 hbO hbF hbn
  rw [hn] at hX3 d0 d1 d2 hnl2
  have hne : n ≠ nb := by omega
  have HN := Lib.hid (And.intro hnb hn)
  have H3 := Lib.hid (And.intro hX3 (And.intro hN3 hT3))
  clear hB1 hX1 hB2 hX2 hB3 hX3 hN3 hr3 hT3 hb1 hb2 hnb hn
  (try rw [HN.out.2])
  go_wp2_with fail
  refine CS.mono ?_
  clear CS d0 d1 d2
  rintro e w4 ⟨sv, O2, F2, dv2, rfl, hfo, hr4, ht4⟩
  (try rw [HN.out.1])
  (try rw [HN.out.2])
  obtain ⟨As, cs, rfl, _⟩ := hfo.form
  have hnl3 := H3.out.2.1.lt
  have hX4 := ht4.chg.holds hnO H3.out.1
  have hN4 := ht4.chg.holds hbO H3.out.2.1
  have hbO2 := ht4.offO hnl3 hbO
  have hbF2 := ht4.offF hnl3 hbF
  have c5 := hN4.cell 5
  have x5 := hN4.free 5
  have hC6 : Chg w4 (w4.setCell ⟨nb, 5, none⟩ (.slice As (spansOf bt.data.toList).length cs)) (fun k => k = nb) := Chg.set w4 ⟨nb, 5, none⟩ (.slice As (spansOf bt.data.toList).length cs)
  have hr6 := hr4.chg hC6 (fun k hk e => hbO2 (e ▸ hk)) (fun k hk e => hbF2 (e ▸ hk))
  have hfo6 := hfo.chg hC6 (fun _ h => h) (fun k hk e => hbF2 (e ▸ hk))
  have hN6 := hN4.set 5 (.slice As (spansOf bt.data.toList).length cs)
  have hX6 := hX4.far (p := ⟨nb, 5, none⟩) hne (.slice As (spansOf bt.data.toList).length cs)
  simp only [List.setIfInBounds_toArray, List.set_cons_succ, List.set_cons_zero] at hN6
  obtain ⟨b0, b1, b2, b3, b4, b5, b6, b7, b8⟩ := cells9 hN6
  obtain ⟨q0, q1, q2⟩ := cells3 hX6
  have CA := badd_any hr6 ⟨3, lvl, ord, ⟨#[]⟩, ⟨#[]⟩, spansOf bt.data.toList, [], f, no⟩ (.slice As (spansOf bt.data.toList).length cs) (.slice none 0 0) ⟨hfo6, rows_nil _ _⟩ f t ⟨#[]⟩ no 0 hl rfl rfl
  have e3 : ((3 : Nat) : Int) = 3 := rfl
  simp only [e3] at CA
  have H6 := Lib.hid (And.intro ht4 hC6)
  clear e3 hr6 hfo6 hN6 hX6 hX4 hN4 hfo hr4 ht4 hC6 hnl3
  go_wp2_with fail
  refine CA.mono ?_
  clear CA
  rintro e W7 ⟨rfl, O3, bv3, hr7, ht7⟩
  have H7 := Lib.hid (And.intro hr7 ht7)
  clear hr7 ht7
  go_wp2
  (try simp only [Exit.inBlock, Exit.then])
  refine bodyPost_ret (results_none rfl _ _ _) rfl ?_
  exact ⟨rfl, O3, F2, bv3, dv2, H7.out.1, ((H3.out.2.2.trans H6.out.1).poke H6.out.2 (by omega)).trans H7.out.2⟩
set_option maxRecDepth 100000 in
set_option maxHeartbeats 4000000 in
theorem read_none {w : World} {O F : Nat → Prop} {rb : Nat} {lv : Value} {pos : Nat} {bv : Value} {bs : List Bl} {dv : Value} {ds : List Dg} (h : Rdr w O F rb lv pos bv bs dv ds) (f t : ByteArray) (no : Int) (s : ByteArray) (hs : s.size ≤ 100000) {m : Int} (hm : Glob m w) (h3 : ∀ k, O k → 3 ≤ k)
    (hl : bs.length ≤ 1000000) (hd : ds.length + 10 + s.size ≤ 1000000) (hA : ¬ 0 < (leadB s.data.toList 61).1) (hI : ¬ 0 < (itemB s.data.toList).1) (h0 : s.data.toList = []) :
    Calls Tryz.prog 24 #[.pointer (some ⟨rb, 0, none⟩), .agg #[.string f, .int .i64 no, .string t], .string s] w fun e w' => e = .returned (.tuple #[]) ∧ RdPost w O F rb lv pos bs ds ((0, [], []) : Told) w' := by
  have hl1 := leading_any s 61 (w.alloc (.cells #[.string f, .int .i64 no, .string t] 62)) hs
  have hit := fun W => item_any s W hs
  obtain ⟨A, hA0⟩ : ∃ A, leadB s.data.toList 61 = A := ⟨_, rfl⟩
  rw [hA0] at hl1 hA
  obtain ⟨lv1, bh⟩ := A
  simp only at hl1 hA
  obtain rfl : lv1 = 0 := by omega
  unfold strV at hl1
  have e61 : (((61 : UInt8).toNat : Nat) : Int) = 61 := rfl
  rw [e61] at hl1
  have e0 : ((0 : Nat) : Int) = 0 := rfl
  rw [e0] at hl1
  have hb := (Below.refl w.heap.size w).alloc (Nat.le_refl _) (.cells #[.string f, .int .i64 no, .string t] 62)
  have hX := Holds.new w 62 #[.string f, .int .i64 no, .string t]
  unfold RdPost
  obtain ⟨I, hI0⟩ : ∃ I, itemB s.data.toList = I := ⟨_, rfl⟩
  rw [hI0] at hit hI
  obtain ⟨lvl, ord, it⟩ := I
  simp only at hit hI
  obtain rfl : lvl = 0 := by omega
  rw [e0] at hit
  unfold strV at hit
  obtain rfl : s = ⟨#[]⟩ := ba_ext (by rw [h0])
  have HR := Lib.hid (And.intro h (And.intro hb (And.intro hX hm)))
  clear h hb hX hm e61 hA0 hA hI hI0 e0 h0
  go_enter Tryz.func24, Tryz.ntmps24
  go_wp2_with fail
  refine hl1.mono ?_
  clear hl1
  rintro e w1 ⟨rfl, hb1⟩
  have hB1 : Below w.heap.size w w1 := HR.out.2.1.trans (hb1.mono (by simp))
  have hX1 := HR.out.2.2.1.below hb1 HR.out.2.2.1.lt
  go_wp2_with fail
  refine (hit _).mono ?_
  clear hit
  rintro e w2 ⟨rfl, hb2⟩
  have hB2 : Below w.heap.size w w2 := hB1.trans (hb2.mono hB1.size)
  have hX2 := hX1.below hb2 hX1.lt
  have H2 := Lib.hid hB2
  clear hB1 hX1 hB2 hX2 hb1 hb2
  go_wp2
  go_end0
  exact ⟨rfl, O, F, bv, dv, by simpa using HR.out.1.below H2.out, Chg.below H2.out O, fun _ h => .inl h, fun _ h => .inl h, fun _ h => h⟩
set_option maxRecDepth 100000 in
set_option maxHeartbeats 4000000 in
theorem read_code {w : World} {O F : Nat → Prop} {rb : Nat} {lv : Value} {pos : Nat} {bv : Value} {bs : List Bl} {dv : Value} {ds : List Dg} (h : Rdr w O F rb lv pos bv bs dv ds) (f t : ByteArray) (no : Int) (s : ByteArray) (hs : s.size ≤ 100000) {m : Int} (hm : Glob m w) (h3 : ∀ k, O k → 3 ≤ k)
    (hl : bs.length ≤ 1000000) (hd : ds.length + 10 + s.size ≤ 1000000) (hA : ¬ 0 < (leadB s.data.toList 61).1) (hI : ¬ 0 < (itemB s.data.toList).1) (h0 : s.data.toList = fenceL) {L : Nat → Prop} {ls : List Ln} (hL : LinesAt w L lv ls) (hLO : ∀ k, L k → ¬ O k) (hLl : ∀ k, L k → k < w.heap.size) (hsz : ∀ x ∈ ls, x.text.size ≤ 100000) (hp : pos ≤ ls.length) (hn : ls.length ≤ 1000000) (hwt : s.size + wtX (ls.drop pos) ≤ 100000) (hd2 : ds.length + 10 + s.size + wtX (ls.drop pos) ≤ 1000000) :
    Calls Tryz.prog 24 #[.pointer (some ⟨rb, 0, none⟩), .agg #[.string f, .int .i64 no, .string t], .string s] w fun e w' => e = .returned (.tuple #[]) ∧ RdPost w O F rb lv pos bs ds (codeR f no s (ls.drop pos)) w' := by
  have hl1 := leading_any s 61 (w.alloc (.cells #[.string f, .int .i64 no, .string t] 62)) hs
  have hit := fun W => item_any s W hs
  obtain ⟨A, hA0⟩ : ∃ A, leadB s.data.toList 61 = A := ⟨_, rfl⟩
  rw [hA0] at hl1 hA
  obtain ⟨lv1, bh⟩ := A
  simp only at hl1 hA
  obtain rfl : lv1 = 0 := by omega
  unfold strV at hl1
  have e61 : (((61 : UInt8).toNat : Nat) : Int) = 61 := rfl
  rw [e61] at hl1
  have e0 : ((0 : Nat) : Int) = 0 := rfl
  rw [e0] at hl1
  have hb := (Below.refl w.heap.size w).alloc (Nat.le_refl _) (.cells #[.string f, .int .i64 no, .string t] 62)
  have hX := Holds.new w 62 #[.string f, .int .i64 no, .string t]
  unfold RdPost
  obtain ⟨I, hI0⟩ : ∃ I, itemB s.data.toList = I := ⟨_, rfl⟩
  rw [hI0] at hit hI
  obtain ⟨lvl, ord, it⟩ := I
  simp only at hit hI
  obtain rfl : lvl = 0 := by omega
  rw [e0] at hit
  unfold strV at hit
  obtain rfl : s = ⟨#[45, 45, 45, 45]⟩ := ba_ext (by rw [h0]; rfl)
  have HR := Lib.hid (And.intro h (And.intro hb (And.intro hX hm)))
  have hL1 := fun W (hW : Below w.heap.size w W) => hL.chg (Chg.below hW (fun _ => False)) (fun _ _ h => h)
  have HL := Lib.hid (And.intro hL1 hLl)
  clear h hb hX hm e61 hA0 hA hI hI0 e0 h0 hL1
  go_enter Tryz.func24, Tryz.ntmps24
  go_wp2_with fail
  refine hl1.mono ?_
  clear hl1
  rintro e w1 ⟨rfl, hb1⟩
  have hB1 : Below w.heap.size w w1 := HR.out.2.1.trans (hb1.mono (by simp))
  have hX1 := HR.out.2.2.1.below hb1 HR.out.2.2.1.lt
  go_wp2_with fail
  refine (hit _).mono ?_
  clear hit
  rintro e w2 ⟨rfl, hb2⟩
  have hB2 : Below w.heap.size w w2 := hB1.trans (hb2.mono hB1.size)
  have hX2 := hX1.below hb2 hX1.lt
  have hL2 := HL.out.1 w2 hB2
  have CC := bcode_any (HR.out.1.below hB2) hL2 hLO (fun k hk => Nat.lt_of_lt_of_le (HL.out.2 k hk) hB2.size) hsz hp hn f t no ⟨#[45, 45, 45, 45]⟩ hl (by omega)
  obtain ⟨d0, d1, d2⟩ := cells3 hX2
  have HT : Hid (Turn w w2 O F O F) := Lib.hid ⟨Chg.below hB2 O, fun _ h => .inl h, fun _ h => .inl h, fun _ h => h⟩
  clear hB1 hX1 hB2 hX2 hb1 hb2 hL2
  go_wp2_with fail
  refine CC.mono ?_
  clear CC
  rintro e w3 ⟨rfl, O3, bv3, dv3, hr3, ht3⟩
  have H3 := Lib.hid (And.intro hr3 ht3)
  clear hr3 ht3
  go_wp2
  go_end0
  refine ⟨rfl, O3, F, bv3, dv3, ?_, HT.out.trans H3.out.2⟩
  unfold codeR
  rw [(code_shift ls pos).1, (code_shift ls pos).2, List.length_drop]
  simp only []
  rw [endN_if pos _ _ hp, ends_if pos _ _ hp]
  exact H3.out.1
set_option maxRecDepth 100000 in
set_option maxHeartbeats 4000000 in
theorem read_table {w : World} {O F : Nat → Prop} {rb : Nat} {lv : Value} {pos : Nat} {bv : Value} {bs : List Bl} {dv : Value} {ds : List Dg} (h : Rdr w O F rb lv pos bv bs dv ds) (f t : ByteArray) (no : Int) (s : ByteArray) (hs : s.size ≤ 100000) {m : Int} (hm : Glob m w) (h3 : ∀ k, O k → 3 ≤ k)
    (hl : bs.length ≤ 1000000) (hd : ds.length + 10 + s.size ≤ 1000000) (hA : ¬ 0 < (leadB s.data.toList 61).1) (hI : ¬ 0 < (itemB s.data.toList).1) (h0 : ¬ s.data.toList = []) (h4 : ¬ s.data.toList = fenceL) (hpf : Lib.hasPrefix s.data.toList barsL = true) {L : Nat → Prop} {ls : List Ln} (hL : LinesAt w L lv ls) (hLO : ∀ k, L k → ¬ O k) (hLl : ∀ k, L k → k < w.heap.size) (hsz : ∀ x ∈ ls, x.text.size ≤ 100000) (hp : pos ≤ ls.length) (hn : ls.length ≤ 1000000) (hwt : s.size + wtX (ls.drop pos) ≤ 100000) (hd2 : ds.length + 10 + s.size + wtX (ls.drop pos) ≤ 1000000) :
    Calls Tryz.prog 24 #[.pointer (some ⟨rb, 0, none⟩), .agg #[.string f, .int .i64 no, .string t], .string s] w fun e w' => e = .returned (.tuple #[]) ∧ RdPost w O F rb lv pos bs ds (tableR f no s (ls.drop pos)) w' := by
  have hl1 := leading_any s 61 (w.alloc (.cells #[.string f, .int .i64 no, .string t] 62)) hs
  have hit := fun W => item_any s W hs
  obtain ⟨A, hA0⟩ : ∃ A, leadB s.data.toList 61 = A := ⟨_, rfl⟩
  rw [hA0] at hl1 hA
  obtain ⟨lv1, bh⟩ := A
  simp only at hl1 hA
  obtain rfl : lv1 = 0 := by omega
  unfold strV at hl1
  have e61 : (((61 : UInt8).toNat : Nat) : Int) = 61 := rfl
  rw [e61] at hl1
  have e0 : ((0 : Nat) : Int) = 0 := rfl
  rw [e0] at hl1
  have hb := (Below.refl w.heap.size w).alloc (Nat.le_refl _) (.cells #[.string f, .int .i64 no, .string t] 62)
  have hX := Holds.new w 62 #[.string f, .int .i64 no, .string t]
  unfold RdPost
  obtain ⟨I, hI0⟩ : ∃ I, itemB s.data.toList = I := ⟨_, rfl⟩
  rw [hI0] at hit hI
  obtain ⟨lvl, ord, it⟩ := I
  simp only at hit hI
  obtain rfl : lvl = 0 := by omega
  rw [e0] at hit
  unfold strV at hit
  have n0 : (s.toList == ([] : Bs)) = false := by rw [ByteArray.toList_eq]; exact beq_eq_false_iff_ne.2 h0
  have n4 : (s.toList == ([45, 45, 45, 45] : Bs)) = false := by rw [ByteArray.toList_eq]; exact beq_eq_false_iff_ne.2 h4
  have n00 : s.toList.isEmpty = false := ba_nonempty (fun e => h0 (by rw [e]))
  have hcp := fun W => Tryz.strings_HasPrefix s ⟨#[124, 61, 61, 61]⟩ W
  have eb : (⟨#[124, 61, 61, 61]⟩ : ByteArray).data.toList = barsL := rfl
  rw [eb, hpf] at hcp
  have hs4 : 4 ≤ s.size := by have := hasP_len hpf; rw [← size_list] at this; exact this
  have HR := Lib.hid (And.intro h (And.intro hb (And.intro hX hm)))
  have hL1 := fun W (hW : Below w.heap.size w W) => hL.chg (Chg.below hW (fun _ => False)) (fun _ _ h => h)
  have HL := Lib.hid (And.intro hL1 hLl)
  clear h hb hX hm e61 hA0 hA hI hI0 e0 h0 h4 hL1 eb hpf
  go_enter Tryz.func24, Tryz.ntmps24
  go_wp2_with fail
  refine hl1.mono ?_
  clear hl1
  rintro e w1 ⟨rfl, hb1⟩
  have hB1 : Below w.heap.size w w1 := HR.out.2.1.trans (hb1.mono (by simp))
  have hX1 := HR.out.2.2.1.below hb1 HR.out.2.2.1.lt
  go_wp2_with fail
  refine (hit _).mono ?_
  clear hit
  rintro e w2 ⟨rfl, hb2⟩
  have hB2 : Below w.heap.size w w2 := hB1.trans (hb2.mono hB1.size)
  have hX2 := hX1.below hb2 hX1.lt
  have hL2 := HL.out.1 w2 hB2
  have CC := table_any (HR.out.1.below hB2) hL2 hLO (fun k hk => Nat.lt_of_lt_of_le (HL.out.2 k hk) hB2.size) hsz hp hn f t no s hs hs4 (HR.out.2.2.2.chg (Chg.below hB2 (fun _ => False)) (fun _ h => h.elim)) h3 (by omega) hl (by omega)
  obtain ⟨d0, d1, d2⟩ := cells3 hX2
  have HT : Hid (Turn w w2 O F O F) := Lib.hid ⟨Chg.below hB2 O, fun _ h => .inl h, fun _ h => .inl h, fun _ h => h⟩
  clear hB1 hX1 hB2 hX2 hb1 hb2 hL2
  go_wp2_with (go_at_call 40; refine (hcp _).mono ?_; rintro e w5 ⟨rfl, hw5⟩; subst hw5)
  refine CC.mono ?_
  clear CC
  rintro e w3 ⟨rfl, O3, F3, bv3, dv3, hr3, ht3⟩
  have H3 := Lib.hid (And.intro hr3 ht3)
  clear hr3 ht3
  go_wp2
  go_end0
  exact ⟨rfl, O3, F3, bv3, dv3, H3.out.1, HT.out.trans H3.out.2⟩
set_option maxRecDepth 100000 in
set_option maxHeartbeats 4000000 in
theorem read_para {w : World} {O F : Nat → Prop} {rb : Nat} {lv : Value} {pos : Nat} {bv : Value} {bs : List Bl} {dv : Value} {ds : List Dg} (h : Rdr w O F rb lv pos bv bs dv ds) (f t : ByteArray) (no : Int) (s : ByteArray) (hs : s.size ≤ 100000) {m : Int} (hm : Glob m w) (h3 : ∀ k, O k → 3 ≤ k)
    (hl : bs.length ≤ 1000000) (hd : ds.length + 10 + s.size ≤ 1000000) (hA : ¬ 0 < (leadB s.data.toList 61).1) (hI : ¬ 0 < (itemB s.data.toList).1) (h0 : ¬ s.data.toList = []) (h4 : ¬ s.data.toList = fenceL) (hpf : Lib.hasPrefix s.data.toList barsL = false) {L : Nat → Prop} {ls : List Ln} (hL : LinesAt w L lv ls) (hLO : ∀ k, L k → ¬ O k) (hLl : ∀ k, L k → k < w.heap.size) (hsz : ∀ x ∈ ls, x.text.size ≤ 100000) (hp : pos ≤ ls.length) (hn : ls.length ≤ 1000000) (hwt : s.size + wtX (ls.drop pos) ≤ 100000) (hd2 : ds.length + 10 + s.size + wtX (ls.drop pos) ≤ 1000000) :
    Calls Tryz.prog 24 #[.pointer (some ⟨rb, 0, none⟩), .agg #[.string f, .int .i64 no, .string t], .string s] w fun e w' => e = .returned (.tuple #[]) ∧ RdPost w O F rb lv pos bs ds (paraR f no s (ls.drop pos)) w' := by
  have hl1 := leading_any s 61 (w.alloc (.cells #[.string f, .int .i64 no, .string t] 62)) hs
  have hit := fun W => item_any s W hs
  obtain ⟨A, hA0⟩ : ∃ A, leadB s.data.toList 61 = A := ⟨_, rfl⟩
  rw [hA0] at hl1 hA
  obtain ⟨lv1, bh⟩ := A
  simp only at hl1 hA
  obtain rfl : lv1 = 0 := by omega
  unfold strV at hl1
  have e61 : (((61 : UInt8).toNat : Nat) : Int) = 61 := rfl
  rw [e61] at hl1
  have e0 : ((0 : Nat) : Int) = 0 := rfl
  rw [e0] at hl1
  have hb := (Below.refl w.heap.size w).alloc (Nat.le_refl _) (.cells #[.string f, .int .i64 no, .string t] 62)
  have hX := Holds.new w 62 #[.string f, .int .i64 no, .string t]
  unfold RdPost
  obtain ⟨I, hI0⟩ : ∃ I, itemB s.data.toList = I := ⟨_, rfl⟩
  rw [hI0] at hit hI
  obtain ⟨lvl, ord, it⟩ := I
  simp only at hit hI
  obtain rfl : lvl = 0 := by omega
  rw [e0] at hit
  unfold strV at hit
  have n0 : (s.toList == ([] : Bs)) = false := by rw [ByteArray.toList_eq]; exact beq_eq_false_iff_ne.2 h0
  have n4 : (s.toList == ([45, 45, 45, 45] : Bs)) = false := by rw [ByteArray.toList_eq]; exact beq_eq_false_iff_ne.2 h4
  have n00 : s.toList.isEmpty = false := ba_nonempty (fun e => h0 (by rw [e]))
  have hcp := fun W => Tryz.strings_HasPrefix s ⟨#[124, 61, 61, 61]⟩ W
  have eb : (⟨#[124, 61, 61, 61]⟩ : ByteArray).data.toList = barsL := rfl
  rw [eb, hpf] at hcp
  have hpl := paraB_len ls pos s
  have hpf2 := faults_le (paraB ls pos s)
  have HR := Lib.hid (And.intro h (And.intro hb (And.intro hX hm)))
  have hL1 := fun W (hW : Below w.heap.size w W) => hL.chg (Chg.below hW (fun _ => False)) (fun _ _ h => h)
  have HL := Lib.hid (And.intro hL1 hLl)
  clear h hb hX hm e61 hA0 hA hI hI0 e0 h0 h4 hL1 eb hpf
  go_enter Tryz.func24, Tryz.ntmps24
  go_wp2_with fail
  refine hl1.mono ?_
  clear hl1
  rintro e w1 ⟨rfl, hb1⟩
  have hB1 : Below w.heap.size w w1 := HR.out.2.1.trans (hb1.mono (by simp))
  have hX1 := HR.out.2.2.1.below hb1 HR.out.2.2.1.lt
  go_wp2_with fail
  refine (hit _).mono ?_
  clear hit
  rintro e w2 ⟨rfl, hb2⟩
  have hB2 : Below w.heap.size w w2 := hB1.trans (hb2.mono hB1.size)
  have hX2 := hX1.below hb2 hX1.lt
  have hL2 := HL.out.1 w2 hB2
  have CC := para_any (HR.out.1.below hB2) hL2 hLO (fun k hk => Nat.lt_of_lt_of_le (HL.out.2 k hk) hB2.size) hsz hp hn f t no s (HR.out.2.2.2.chg (Chg.below hB2 (fun _ => False)) (fun _ h => h.elim)) h3 hl (by omega) (by omega)
  obtain ⟨d0, d1, d2⟩ := cells3 hX2
  have HT : Hid (Turn w w2 O F O F) := Lib.hid ⟨Chg.below hB2 O, fun _ h => .inl h, fun _ h => .inl h, fun _ h => h⟩
  clear hB1 hX1 hB2 hX2 hb1 hb2 hL2
  go_wp2_with (go_at_call 40; refine (hcp _).mono ?_; rintro e w5 ⟨rfl, hw5⟩; subst hw5)
  refine CC.mono ?_
  clear CC
  rintro e w3 ⟨rfl, O3, F3, bv3, dv3, hr3, ht3⟩
  have H3 := Lib.hid (And.intro hr3 ht3)
  clear hr3 ht3
  go_wp2
  go_end0
  refine ⟨rfl, O3, F3, bv3, dv3, ?_, HT.out.trans H3.out.2⟩
  unfold paraR
  rw [para_shift]
  exact H3.out.1
end Go.Proofs.YtcjmfjccjhdgjaaGreatDoor
namespace Go.Bd
open Go.RowKit Go.Maps Go.WideMaps
def heldR : Value → Option (DataW Value × List MemPlace) := fun v => some (.held v, [])
def nameL (s : ByteArray) : Lit := .string s.data.toList
structure Fe where
  name : ByteArray
  v : Value
  c : Bs
def findF (es : List Fe) (s : ByteArray) : Option Fe := es.find? (fun e => decide (e.name = s))
def valF (es : List Fe) (s : ByteArray) : Value := match findF es s with | some e => e.v | none => .slice none 0 0
def delF (es : List Fe) (s : ByteArray) : List Fe := es.filter (fun e => !decide (e.name = s))
def putF (es : List Fe) (e : Fe) : List Fe := delF es e.name ++ [e]
theorem findF_del_same (es : List Fe) (s : ByteArray) : findF (delF es s) s = none := by
  unfold findF delF
  rw [List.find?_eq_none]
  intro x hx
  have := (List.mem_filter.1 hx).2
  simpa using this
theorem findF_del_other (es : List Fe) {s t : ByteArray} (h : t ≠ s) : findF (delF es s) t = findF es t := by
  unfold findF delF
  rw [List.find?_filter]
  congr 1
  funext e
  by_cases he : e.name = t
  · simp [he, h]
  · simp [he]
theorem findF_put_same (es : List Fe) (e : Fe) : findF (putF es e) e.name = some e := by
  unfold putF
  have h := findF_del_same es e.name
  unfold findF at h ⊢
  rw [List.find?_append, h]
  simp
theorem findF_put_other (es : List Fe) (e : Fe) {t : ByteArray} (h : t ≠ e.name) : findF (putF es e) t = findF es t := by
  unfold putF
  have h1 := findF_del_other es h
  unfold findF at h1 ⊢
  rw [List.find?_append, h1]
  have : List.find? (fun x => decide (x.name = t)) [e] = none := by simp [Ne.symm h]
  rw [this, Option.or_none]
def Uniq (es : List Fe) : Prop := es.Pairwise (fun a b => a.name ≠ b.name)
theorem Uniq.del {es : List Fe} (h : Uniq es) (s : ByteArray) : Uniq (delF es s) := List.Pairwise.filter _ h
theorem Uniq.put {es : List Fe} (h : Uniq es) (e : Fe) : Uniq (putF es e) := by
  unfold Uniq putF
  rw [List.pairwise_append]
  refine ⟨h.del _, List.pairwise_singleton _ _, fun a ha b hb => ?_⟩
  rw [List.mem_singleton] at hb
  subst hb
  have := (List.mem_filter.1 ha).2
  simpa using this
theorem del_length {es : List Fe} (h : Uniq es) (s : ByteArray) : (delF es s).length + (if (findF es s).isSome then 1 else 0) = es.length := by
  induction es with
  | nil => simp [delF, findF]
  | cons a es ih =>
    have h1 := List.pairwise_cons.1 h
    have ih' := ih h1.2
    by_cases ha : a.name = s
    · have e1 : delF es s = es := by
        unfold delF
        rw [List.filter_eq_self]
        intro x hx
        have := h1.1 x hx
        simp [← ha, Ne.symm this]
      have e2 : delF (a :: es) s = es := by
        unfold delF at e1 ⊢
        rw [List.filter_cons_of_neg (by simp [ha]), e1]
      rw [e2]
      simp [findF, ha]
    · have e2 : delF (a :: es) s = a :: delF es s := by
        unfold delF
        rw [List.filter_cons_of_pos (by simp [ha])]
      have e3 : findF (a :: es) s = findF es s := by
        unfold findF
        rw [List.find?_cons_of_neg (by simp [ha])]
      rw [e2, e3, List.length_cons, List.length_cons]
      omega
theorem put_length {es : List Fe} (h : Uniq es) (e : Fe) : (putF es e).length = es.length + (if (findF es e.name).isSome then 0 else 1) := by
  have := del_length h e.name
  unfold putF
  rw [List.length_append, List.length_singleton]
  split at this <;> split <;> simp_all
def FsMap (w : World) (P : Program) (K : TypeId) (bm : Nat) (es : List Fe) : Prop :=
  ∃ D, w.ownsMap P K heldR bm es.length D ∧ Maps.size D = es.length ∧ (∀ s : ByteArray, Maps.has D (nameL s) = (findF es s).isSome) ∧ ∀ (s : ByteArray) z, D.atKey (nameL s) z = match findF es s with | some e => .held e.v | none => z
theorem nameL_ne {s t : ByteArray} (h : t ≠ s) : nameL t ≠ nameL s := fun e => by
  unfold nameL at e
  injection e with e
  exact h (by cases s; cases t; simp_all)
section
variable {w w' : World} {P : Program} {K T E bm : Nat} {es : List Fe}
theorem tight {n : Nat} {D : DataW Value} (h : w.ownsMap P K heldR bm n D) : w.ownsMap P K heldR bm (Maps.size D) D := by
  obtain ⟨es, clock, h1, h2, _, h4⟩ := h
  refine ⟨es, clock, h1, h2, ?_, h4⟩
  rw [h4]
  simp [Maps.size, length_sorted]
theorem FsMap.lt (h : FsMap w P K bm es) : bm < w.heap.size := by
  obtain ⟨D, h1, _⟩ := h
  exact h1.lt
theorem FsMap.eq (h : FsMap w P K bm es) (he : w'.heap[bm]? = w.heap[bm]?) : FsMap w' P K bm es := by
  obtain ⟨D, ⟨m, clock, h1, h2⟩, h3⟩ := h
  exact ⟨D, ⟨m, clock, he.trans h1, h2⟩, h3⟩
theorem FsMap.chg {S : Nat → Prop} (h : FsMap w P K bm es) (hc : Chg w w' S) (hS : ¬ S bm) : FsMap w' P K bm es := h.eq (hc.block _ h.lt hS)
theorem FsMap.new (w : World) (P : Program) (K : TypeId) : FsMap (w.alloc (.map #[] 0)) P K w.heap.size [] :=
  ⟨.map [], World.ownsMap_made _ _ _ _, rfl, fun s => rfl, fun s z => rfl⟩
theorem FsMap.look_ok (h : FsMap w P K bm es) (hk : P.underlying K = some .string) (ht : P.underlying T = some (.map K E)) (hz : (zeroValue E).run P w = .ok (.slice none 0 0) w) {s : ByteArray} (hs : s.size ≤ maxLen) :
    (Instr.lookup T (.map (some bm)) (.string s) true).run P w = .ok (.tuple #[valF es s, .bool (findF es s).isSome]) w := by
  obtain ⟨D, h1, _, h3, h4⟩ := h
  obtain ⟨v, ps, hrun, hv⟩ := h1.look_ok (string_keyed hk) ht hz rfl (keyOf_string_mk hk hs)
  rw [hrun]
  have e1 := h4 s (.held (.slice none 0 0))
  have e2 := h3 s
  unfold nameL at e1 e2
  rw [e1] at hv
  rw [e2]
  simp only [heldR, Option.some.injEq, Prod.mk.injEq] at hv
  have e3 : v = valF es s := by
    unfold valF
    split at hv <;> simp_all
  rw [e3]
theorem FsMap.len (h : FsMap w P K bm es) (ht : P.underlying T = some (.map K E)) (ty : TypeId) : (Builtin.len_ #[T] ty #[.map (some bm)]).run P w = .ok (.int .i64 es.length) w := by
  obtain ⟨D, h1, h2, _⟩ := h
  rw [h1.len ht, h2]
theorem FsMap.store (h : FsMap w P K bm es) (hu : Uniq es) (hk : P.underlying K = some .string) (ht : P.underlying T = some (.map K E)) (hn : es.length < maxLen) (e : Fe) (hs : e.name.size ≤ maxLen) :
    ∃ w', (Instr.mapUpdate T (.map (some bm)) (.string e.name) e.v).run P w = .ok () w' ∧ FsMap w' P K bm (putF es e) ∧ Chg w w' (fun b => b = bm) ∧ w'.heap.size = w.heap.size := by
  obtain ⟨D, h1, h2, h3, h4⟩ := h
  obtain ⟨w', hrun, h5, h6⟩ := h1.store (string_keyed hk) ht hn (keyOf_string_mk hk hs) (val := e.v) (d := .held e.v) (ps := []) rfl
  have hsz : Maps.size (D.put (nameL e.name) (.held e.v)) = (putF es e).length := by
    have e1 := Maps.size_put (h1.tidy (string_keyed hk)) (k := nameL e.name) (.held e.v)
    rw [e1, h3, put_length hu, h2]
    split <;> simp
  refine ⟨w', hrun, ⟨D.put (nameL e.name) (.held e.v), ?_, hsz, fun s => ?_, fun s z => ?_⟩, (Chg.grown h6.grown).mono (fun k _ h => by simpa using h), ?_⟩
  · rw [← hsz]; exact tight h5
  · by_cases hse : s = e.name
    · subst hse
      rw [findF_put_same, Maps.has_put_same h1.isMap (by exact trivial)]
      rfl
    · rw [findF_put_other _ _ hse, Maps.has_put_other (nameL_ne hse), h3]
  · by_cases hse : s = e.name
    · subst hse
      rw [findF_put_same, Maps.atKey_put_same h1.isMap (by exact trivial)]
    · rw [findF_put_other _ _ hse, Maps.atKey_put_other (nameL_ne hse), h4]
  · obtain ⟨_, _, _, _, _, rfl⟩ := h6
    simp [ChangeMaps.setBlock]
theorem FsMap.drop (h : FsMap w P K bm es) (hu : Uniq es) (hk : P.underlying K = some .string) (ht : P.underlying T = some (.map K E)) (s : ByteArray) (hs : s.size ≤ maxLen) (ty : TypeId) :
    ∃ w', (Builtin.delete_ #[T, K] ty #[.map (some bm), .string s]).run P w = .ok (.tuple #[]) w' ∧ FsMap w' P K bm (delF es s) ∧ Chg w w' (fun b => b = bm) := by
  obtain ⟨D, h1, h2, h3, h4⟩ := h
  obtain ⟨w', hrun, h5, h6⟩ := h1.drop (string_keyed hk) ht (keyOf_string_mk hk hs) ty
  have hsz : Maps.size (D.del (nameL s)) = (delF es s).length := by
    have e1 := Maps.size_del (h1.tidy (string_keyed hk)) (k := nameL s)
    have e2 := del_length hu s
    rw [h3] at e1
    split at e1 <;> simp_all <;> omega
  refine ⟨w', hrun, ⟨D.del (nameL s), ?_, hsz, fun t => ?_, fun t z => ?_⟩, (Chg.grown h6.grown).mono (fun k _ h => by simpa using h)⟩
  · rw [← hsz]; exact tight h5
  · by_cases hse : t = s
    · subst hse
      rw [findF_del_same, Maps.has_del_same]
      rfl
    · rw [findF_del_other _ hse, Maps.has_del_other (nameL_ne hse), h3]
  · by_cases hse : t = s
    · subst hse
      rw [findF_del_same, Maps.atKey_del_same]
    · rw [findF_del_other _ hse, Maps.atKey_del_other (nameL_ne hse), h4]
end
end Go.Bd
namespace Go.Bd
open Go.RowKit
def noteV (kb pb : Nat) : Value := .func (.func 32) #[] #[.pointer (some ⟨kb, 0, none⟩), .pointer (some ⟨pb, 0, none⟩)]
def figV (pb : Nat) : Value := .func (.func 35) #[] #[.pointer (some ⟨pb, 0, none⟩)]
def cmds (n : Nat) : List Fe := [⟨⟨#[102, 105, 103]⟩, figV n, []⟩, ⟨⟨#[110, 111, 116, 101]⟩, noteV (n + 2) n, []⟩, ⟨⟨#[116, 105, 112]⟩, noteV (n + 3) n, []⟩, ⟨⟨#[119, 97, 114, 110]⟩, noteV (n + 4) n, []⟩]
end Go.Bd
namespace Go.Proofs.YtcjmfjccjhdgjaaGreatDoor
open Go.RowKit Go.Bd
theorem cmap_under : Tryz.prog.underlying 59 = some (.map 9 66) := by kernel_rfl
theorem str_under : Tryz.prog.underlying 9 = some .string := by kernel_rfl
set_option maxRecDepth 100000 in
set_option maxHeartbeats 4000000 in
theorem commands_any (rb : Nat) (w : World) :
    Calls Tryz.prog 20 #[.pointer (some ⟨rb, 0, none⟩)] w fun e w' => e = .returned (.map (some (w.heap.size + 1))) ∧ ∃ tp, FsMap w' Tryz.prog 9 (w.heap.size + 1) (cmds w.heap.size) ∧ Holds w' w.heap.size tp #[.pointer (some ⟨rb, 0, none⟩)] ∧ Holds w' (w.heap.size + 2) 9 #[.string ⟨#[110, 111, 116, 101]⟩] ∧ Holds w' (w.heap.size + 3) 9 #[.string ⟨#[116, 105, 112]⟩] ∧ Holds w' (w.heap.size + 4) 9 #[.string ⟨#[119, 97, 114, 110]⟩] ∧ Below w.heap.size w w' := by
  have hmm := @run_makeMap Tryz.prog
  obtain ⟨n, hn⟩ : ∃ n, w.heap.size = n := ⟨_, rfl⟩
  obtain ⟨w0, hw0⟩ : ∃ w0, (w.alloc (.cells #[.pointer (some ⟨rb, 0, none⟩)] 56)).alloc (.map #[] 0) = w0 := ⟨_, rfl⟩
  have hB0 : Below w.heap.size w w0 := hw0 ▸ ((Below.refl _ w).alloc (Nat.le_refl _) _).alloc (by simp) _
  have hm0 := FsMap.new (w.alloc (.cells #[.pointer (some ⟨rb, 0, none⟩)] 56)) Tryz.prog 9
  have hp0 := (Holds.new w 56 #[.pointer (some ⟨rb, 0, none⟩)]).alloc (.map #[] 0)
  rw [World.size_alloc, hn, hw0] at hm0
  rw [hn, hw0] at hp0
  have hs0 : w0.heap.size = n + 2 := by rw [← hw0, World.size_alloc, World.size_alloc, hn]
  obtain ⟨w1, r1, m1, c1, s1⟩ := hm0.store (T := 59) List.Pairwise.nil str_under cmap_under (by simp [maxLen]) ⟨⟨#[102, 105, 103]⟩, figV n, []⟩ (by show (3:Nat) ≤ maxLen; unfold maxLen; omega)
  rw [hs0] at s1
  have u1 : Uniq (putF [] ⟨⟨#[102, 105, 103]⟩, figV n, []⟩) := Uniq.put List.Pairwise.nil _
  have l1 : (putF [] ⟨⟨#[102, 105, 103]⟩, figV n, []⟩).length ≤ 1 := by rw [put_length List.Pairwise.nil]; simp [findF]
  have a2 := (Chg.refl w1 (fun _ => False)).alloc (.cells #[.string ⟨#[110, 111, 116, 101]⟩] 9)
  have z2 : (w1.alloc (.cells #[.string ⟨#[110, 111, 116, 101]⟩] 9)).heap.size = n + 3 := by rw [World.size_alloc, s1]
  have g2 := Holds.new w1 9 #[.string ⟨#[110, 111, 116, 101]⟩]
  rw [s1] at g2
  obtain ⟨w2, r2, m2, c2, s2⟩ := (m1.chg a2 (fun h => h)).store (T := 59) u1 str_under cmap_under (Nat.lt_of_le_of_lt l1 (by decide)) ⟨⟨#[110, 111, 116, 101]⟩, noteV (n + 2) n, []⟩ (by show (4:Nat) ≤ maxLen; unfold maxLen; omega)
  rw [z2] at s2
  have u2 := Uniq.put u1 ⟨⟨#[110, 111, 116, 101]⟩, noteV (n + 2) n, []⟩
  have l2 := Nat.le_trans (Nat.le_of_eq (put_length u1 ⟨⟨#[110, 111, 116, 101]⟩, noteV (n + 2) n, []⟩)) (show _ ≤ 2 by split <;> omega)
  have a3 := (Chg.refl w2 (fun _ => False)).alloc (.cells #[.string ⟨#[116, 105, 112]⟩] 9)
  have z3 : (w2.alloc (.cells #[.string ⟨#[116, 105, 112]⟩] 9)).heap.size = n + 4 := by rw [World.size_alloc, s2]
  have g3 := Holds.new w2 9 #[.string ⟨#[116, 105, 112]⟩]
  rw [s2] at g3
  obtain ⟨w3, r3, m3, c3, s3⟩ := (m2.chg a3 (fun h => h)).store (T := 59) u2 str_under cmap_under (Nat.lt_of_le_of_lt l2 (by decide)) ⟨⟨#[116, 105, 112]⟩, noteV (n + 3) n, []⟩ (by show (3:Nat) ≤ maxLen; unfold maxLen; omega)
  rw [z3] at s3
  have u3 := Uniq.put u2 ⟨⟨#[116, 105, 112]⟩, noteV (n + 3) n, []⟩
  have l3 := Nat.le_trans (Nat.le_of_eq (put_length u2 ⟨⟨#[116, 105, 112]⟩, noteV (n + 3) n, []⟩)) (show _ ≤ 3 by split <;> omega)
  have a4 := (Chg.refl w3 (fun _ => False)).alloc (.cells #[.string ⟨#[119, 97, 114, 110]⟩] 9)
  have z4 : (w3.alloc (.cells #[.string ⟨#[119, 97, 114, 110]⟩] 9)).heap.size = n + 5 := by rw [World.size_alloc, s3]
  have g4 := Holds.new w3 9 #[.string ⟨#[119, 97, 114, 110]⟩]
  rw [s3] at g4
  obtain ⟨w4, r4, m4, c4, s4⟩ := (m3.chg a4 (fun h => h)).store (T := 59) u3 str_under cmap_under (Nat.lt_of_le_of_lt l3 (by decide)) ⟨⟨#[119, 97, 114, 110]⟩, noteV (n + 4) n, []⟩ (by show (4:Nat) ≤ maxLen; unfold maxLen; omega)
  rw [z4] at s4
  have u4 := Uniq.put u3 ⟨⟨#[119, 97, 114, 110]⟩, noteV (n + 4) n, []⟩
  have l4 := Nat.le_trans (Nat.le_of_eq (put_length u3 ⟨⟨#[119, 97, 114, 110]⟩, noteV (n + 4) n, []⟩)) (show _ ≤ 4 by split <;> omega)
  have b1 : Below n w0 w1 := c1.toBelow (by omega) (fun k hk => by omega)
  have b2 : Below n w1 w2 := (((Chg.refl w1 (fun b => b = n + 1)).alloc _).trans c2 (fun _ _ h => h)).toBelow (by omega) (fun k hk => by omega)
  have b3 : Below n w2 w3 := (((Chg.refl w2 (fun b => b = n + 1)).alloc _).trans c3 (fun _ _ h => h)).toBelow (by omega) (fun k hk => by omega)
  have b4 : Below n w3 w4 := (((Chg.refl w3 (fun b => b = n + 1)).alloc _).trans c4 (fun _ _ h => h)).toBelow (by omega) (fun k hk => by omega)
  have hB : Below n w w4 := (((hn ▸ hB0).trans b1).trans b2).trans (b3.trans b4)
  have d2 : Chg (w1.alloc (.cells #[.string ⟨#[110, 111, 116, 101]⟩] 9)) w4 (fun b => b = n + 1) := (c2.trans (((Chg.refl w2 (fun b => b = n + 1)).alloc _).trans c3 (fun _ _ h => h)) (fun _ _ h => h)).trans (((Chg.refl w3 (fun b => b = n + 1)).alloc _).trans c4 (fun _ _ h => h)) (fun _ _ h => h)
  have d3 : Chg (w2.alloc (.cells #[.string ⟨#[116, 105, 112]⟩] 9)) w4 (fun b => b = n + 1) := c3.trans (((Chg.refl w3 (fun b => b = n + 1)).alloc _).trans c4 (fun _ _ h => h)) (fun _ _ h => h)
  have d0 : Chg w0 w4 (fun b => b = n + 1) := c1.trans ((((Chg.refl w1 (fun b => b = n + 1)).alloc _).trans d2 (fun _ _ h => h))) (fun _ _ h => h)
  have q0 := d0.holds (by omega) hp0
  have q2 := d2.holds (by omega) g2
  have q3 := d3.holds (by omega) g3
  have q4 := c4.holds (by omega) g4
  have hes : putF (putF (putF (putF [] ⟨⟨#[102, 105, 103]⟩, figV n, []⟩) ⟨⟨#[110, 111, 116, 101]⟩, noteV (n + 2) n, []⟩) ⟨⟨#[116, 105, 112]⟩, noteV (n + 3) n, []⟩) ⟨⟨#[119, 97, 114, 110]⟩, noteV (n + 4) n, []⟩ = cmds n := by
    simp [putF, delF, cmds, show (⟨#[102, 105, 103]⟩ : ByteArray) ≠ ⟨#[110, 111, 116, 101]⟩ by decide, show (⟨#[102, 105, 103]⟩ : ByteArray) ≠ ⟨#[116, 105, 112]⟩ by decide, show (⟨#[102, 105, 103]⟩ : ByteArray) ≠ ⟨#[119, 97, 114, 110]⟩ by decide, show (⟨#[110, 111, 116, 101]⟩ : ByteArray) ≠ ⟨#[116, 105, 112]⟩ by decide, show (⟨#[110, 111, 116, 101]⟩ : ByteArray) ≠ ⟨#[119, 97, 114, 110]⟩ by decide, show (⟨#[116, 105, 112]⟩ : ByteArray) ≠ ⟨#[119, 97, 114, 110]⟩ by decide]
  rw [hes] at m4
  have HM := Lib.hid (And.intro m4 (And.intro q0 (And.intro q2 (And.intro q3 (And.intro q4 hB)))))
  have HH := Lib.hid (And.intro hn hw0)
  have n1 := note_any ⟨#[110, 111, 116, 101]⟩ n w1
  have n2 := note_any ⟨#[116, 105, 112]⟩ n w2
  have n3 := note_any ⟨#[119, 97, 114, 110]⟩ n w3
  rw [s1] at n1
  rw [s2] at n2
  rw [s3] at n3
  unfold figV at r1
  unfold noteV at r2 r3 r4
  clear hs0 m1 c1 u1 l1 a2 z2 g2 m2 c2 u2 l2 a3 z3 g3 m3 c3 u3 l3 a4 z4 g4 m4 c4 u4 l4 hB0 hm0 hp0 s1 s2 s3 s4 b1 b2 b3 b4 hB d2 d3 d0 q0 q2 q3 q4 hes
  go_enter Tryz.func20, Tryz.ntmps20
  go_wp2_with fail
  refine n1.mono ?_
  rintro e w' ⟨rfl, rfl⟩
  go_wp2_with fail
  refine n2.mono ?_
  rintro e w' ⟨rfl, rfl⟩
  go_wp2_with fail
  refine n3.mono ?_
  rintro e w' ⟨rfl, rfl⟩
  go_wp2
  go_ret
  rw [HH.out.1]
  exact ⟨rfl, _, HM.out.1, HM.out.2.1, HM.out.2.2.1, HM.out.2.2.2.1, HM.out.2.2.2.2.1, HM.out.2.2.2.2.2⟩
end Go.Proofs.YtcjmfjccjhdgjaaGreatDoor
namespace Go.Bd
open Go.RowKit Go.Maps Go.WideMaps
theorem FsMap.lookz_ok {w : World} {P : Program} {K T E bm : Nat} {es : List Fe} (h : FsMap w P K bm es) (hk : P.underlying K = some .string) (ht : P.underlying T = some (.map K E)) {z : Value} (hz : (zeroValue E).run P w = .ok z w) {s : ByteArray} (hs : s.size ≤ maxLen) :
    (Instr.lookup T (.map (some bm)) (.string s) true).run P w = .ok (.tuple #[(match findF es s with | some e => e.v | none => z), .bool (findF es s).isSome]) w := by
  obtain ⟨D, h1, _, h3, h4⟩ := h
  obtain ⟨v, ps, hrun, hv⟩ := h1.look_ok (string_keyed hk) ht hz rfl (keyOf_string_mk hk hs)
  rw [hrun]
  have e1 := h4 s (.held z)
  have e2 := h3 s
  unfold nameL at e1 e2
  rw [e1] at hv
  rw [e2]
  simp only [heldR, Option.some.injEq, Prod.mk.injEq] at hv
  have e3 : v = (match findF es s with | some e => e.v | none => z) := by
    split at hv <;> simp_all
  rw [e3]
end Go.Bd
namespace Go.Proofs.YtcjmfjccjhdgjaaGreatDoor
open Go.RowKit Go.Bd
theorem read_any {w : World} {O F : Nat → Prop} {rb : Nat} {lv : Value} {pos : Nat} {bv : Value} {bs : List Bl} {dv : Value} {ds : List Dg} (h : Rdr w O F rb lv pos bv bs dv ds) (f t : ByteArray) (no : Int) (s : ByteArray) (hs : s.size ≤ 100000) {m : Int} (hm : Glob m w) (h3 : ∀ k, O k → 3 ≤ k)
    (hl : bs.length ≤ 1000000) {L : Nat → Prop} {ls : List Ln} (hL : LinesAt w L lv ls) (hLO : ∀ k, L k → ¬ O k) (hLl : ∀ k, L k → k < w.heap.size) (hsz : ∀ x ∈ ls, x.text.size ≤ 100000) (hp : pos ≤ ls.length) (hn : ls.length ≤ 1000000) (hwt : s.size + wtX (ls.drop pos) ≤ 100000) (hd : ds.length + 10 + s.size + wtX (ls.drop pos) ≤ 1000000) :
    Calls Tryz.prog 24 #[.pointer (some ⟨rb, 0, none⟩), .agg #[.string f, .int .i64 no, .string t], .string s] w fun e w' => e = .returned (.tuple #[]) ∧ RdPost w O F rb lv pos bs ds (readR f no s (ls.drop pos)) w' := by
  unfold readR
  by_cases hA : 0 < (leadB s.data.toList 61).1
  · rw [if_pos hA]
    exact read_head h f t no s hs hm h3 hl (by omega) hA
  rw [if_neg hA]
  by_cases hI : 0 < (itemB s.data.toList).1
  · rw [if_pos hI]
    exact read_item h f t no s hs hm h3 hl (by omega) hA hI
  rw [if_neg hI]
  by_cases h0 : s.data.toList = []
  · rw [if_pos h0]
    exact read_none h f t no s hs hm h3 hl (by omega) hA hI h0
  rw [if_neg h0]
  by_cases h4 : s.data.toList = fenceL
  · rw [if_pos h4]
    exact read_code h f t no s hs hm h3 hl (by omega) hA hI h4 hL hLO hLl hsz hp hn hwt hd
  rw [if_neg h4]
  by_cases hpf : Lib.hasPrefix s.data.toList barsL = true
  · rw [if_pos hpf]
    exact read_table h f t no s hs hm h3 hl (by omega) hA hI h0 h4 hpf hL hLO hLl hsz hp hn hwt hd
  · rw [if_neg hpf]
    exact read_para h f t no s hs hm h3 hl (by omega) hA hI h0 h4 (by simpa using hpf) hL hLO hLl hsz hp hn hwt hd
theorem fig_any {w : World} {O F : Nat → Prop} {rb : Nat} {lv : Value} {pos : Nat} {bv : Value} {bs : List Bl} {dv : Value} {ds : List Dg} (h : Rdr w O F rb lv pos bv bs dv ds) {pb : Nat} {tp : TypeId} (hp : Holds w pb tp #[.pointer (some ⟨rb, 0, none⟩)]) (f t : ByteArray) (no : Int) (s : ByteArray) (hs : s.size ≤ 100000) (hne : ¬ s = ⟨#[]⟩) {m : Int} (hm : Glob m w) (h3 : ∀ k, O k → 3 ≤ k)
    (hl : bs.length ≤ 1000000) (hd : ds.length + 10 + s.size ≤ 1000000) :
    Calls Tryz.prog 35 #[.agg #[.string f, .int .i64 no, .string t], .string s, .pointer (some ⟨pb, 0, none⟩)] w fun e w' => e = .returned (.bool true) ∧ RdPost w O F rb lv pos bs ds (figR f no s.data.toList) w' := by
  unfold figR figB RdPost
  by_cases hi : 0 ≤ Lib.indexAny s.data.toList [32, 9]
  · obtain ⟨k, hk⟩ : ∃ k : Nat, Lib.indexAny s.data.toList [32, 9] = k := ⟨_, (Int.toNat_of_nonneg hi).symm⟩
    have hlt := indexAny_lt (g := [32, 9]) (l := s.data.toList)
    have hks : k < s.size := by
      rw [hk] at hlt
      rw [← size_list] at hlt
      omega
    rw [if_pos hi, hk]
    simp only [Int.toNat_natCast]
    have hz : (⟨(dropL (s.data.toList.drop k)).toArray⟩ : ByteArray).size ≤ s.size := by
      have := dropL_le (s.data.toList.drop k)
      rw [size_mk]
      rw [List.length_drop, ← size_list] at this
      omega
    have hfl : (faultsOf (titleB (⟨(dropL (s.data.toList.drop k)).toArray⟩ : ByteArray).data.toList).1).length ≤ s.size := by
      have h1 := faults_le (titleB (⟨(dropL (s.data.toList.drop k)).toArray⟩ : ByteArray).data.toList).1
      have h2 := titleB_le (⟨(dropL (s.data.toList.drop k)).toArray⟩ : ByteArray).data.toList
      rw [← size_list] at h2
      omega
    have he : s.extract 0 k = ⟨(s.data.toList.take k).toArray⟩ := ba_ext (by rw [extract_list]; simp)
    have FT := fig_two h hp f t no s hs hne k hks hk hm h3 hl ⟨(dropL (s.data.toList.drop k)).toArray⟩ rfl (by omega) (by omega)
    rw [he] at FT
    exact FT
  · rw [if_neg hi]
    simp only []
    have hss : (⟨s.data.toList.toArray⟩ : ByteArray) = s := ba_ext (by simp)
    rw [hss]
    have hfl : (faultsOf (titleB []).1).length = 0 := by
      have h1 := faults_le (titleB []).1
      have h2 := titleB_le []
      simp at h2
      rw [h2] at h1 ⊢
      simpa using h1
    exact fig_one h hp f t no s hs hne (by omega) hm h3 hl (by omega)
end Go.Proofs.YtcjmfjccjhdgjaaGreatDoor
namespace Go.Proofs.YtcjmfjccjhdgjaaGreatDoor
open Go.RowKit Go.Bd
theorem do_zero (w : World) : (zeroValue 66).run Tryz.prog w = .ok .nilFunc w := by kernel_rfl
theorem command_le {l : Bs} {p : Bs × Bs} (h : commandB l = some p) : p.1.length ≤ l.length ∧ p.2.length ≤ l.length := by
  unfold commandB at h
  split at h
  · cases h
  · split at h
    · cases h
      have := dropL_le ((l.drop 1).drop (Lib.indexAny (l.drop 1) [32, 9]).toNat)
      simp only [List.length_take, List.length_drop] at this ⊢
      omega
    · cases h
      simp
theorem fig_le (l : Bs) : (figB l).2.length ≤ l.length := by
  unfold figB
  split
  · have := dropL_le (l.drop (Lib.indexAny l [32, 9]).toNat)
    simp only [List.length_drop] at this ⊢
    omega
  · simp
theorem wtX_take {l : List Ln} {a b : Nat} (h : a ≤ b) : wtX (l.take a) ≤ wtX (l.take b) := by
  have h1 := wtX_split (l.take b) a
  rw [List.take_take, Nat.min_eq_left h] at h1
  omega
theorem cmd_ds (f : ByteArray) (no : Int) (s : ByteArray) (wd bh : Bs) : (cmdR f no s wd bh).2.2.length ≤ 3 + bh.length := by
  unfold cmdR
  split
  · split
    · simp only [wordR, List.length_singleton]; omega
    · have h1 := titledD_le f no ⟨(figB bh).2.toArray⟩
      have h2 := fig_le bh
      rw [size_mk] at h1
      simp only [figR]
      omega
  · split
    · have := faults_le bh
      simp only [noteR, List.length_map]
      omega
    · simp only [wordR, List.length_singleton]; omega
theorem read_ds (f : ByteArray) (no : Int) (s : ByteArray) (rest : List Ln) : (readR f no s rest).2.2.length ≤ 3 + s.size + wtX (rest.take (readR f no s rest).1) := by
  unfold readR
  split
  · have h1 := titledD_le f no ⟨(leadB s.data.toList 61).2.toArray⟩
    have h2 := lead_le s.data.toList 61
    rw [size_mk] at h1
    rw [← size_list] at h2
    simp only [headR]
    omega
  · split
    · have h1 := faults_le (itemB s.data.toList).2.2
      have hiz : (itemB s.data.toList).2.2.length ≤ s.size := by
        have h1 := trim_size s
        unfold itemB
        split
        · exact Nat.le_trans (lead_le _ _) h1
        · split
          · exact Nat.le_trans (lead_le _ _) h1
          · simp
      simp only [itemR, List.length_map]
      omega
    · split
      · simp
      · split
        · simp only [codeR]
          split <;> simp <;> omega
        · split
          · have h1 := titledD_le f no (tabT s)
            have h2 := rowFs_le (rest.take (tabN rest))
            have h3 : wtX (rest.take (tabN rest)) ≤ wtX (rest.take (endN (tabN rest) rest.length)) := wtX_take (by unfold endN; split <;> omega)
            have h4 : (tabT s).size ≤ s.size := by
              unfold tabT
              rw [size_mk]
              have := dropL_le (s.data.toList.drop 4)
              rw [List.length_drop, ← size_list] at this
              omega
            have h5 : (tabE f no s rest).length ≤ 2 := by
              unfold tabE
              rw [List.length_append]
              split <;> split <;> simp
            simp only [tableR, List.length_append, tabF]
            omega
          · have h1 := tail_len (rest.take (untilN (fun t => !plainL t) rest))
            have h2 := faults_le (paraB rest 0 s)
            have h3 : (paraB rest 0 s).length ≤ s.size + wtX (rest.take (untilN (fun t => !plainL t) rest)) := by
              unfold paraB paraT
              rw [List.drop_zero, Lib.join_cons, List.length_append, ← size_list]
              omega
            simp only [paraR, List.length_map]
            omega
theorem step_ds (x : Ln) (rest : List Ln) : (stepR x rest).2.2.length ≤ 3 * (x.text.size + 1 + wtX (rest.take (stepR x rest).1)) := by
  have hs : (tr x.text).size ≤ x.text.size := tr_le x.text
  unfold stepR
  split
  · rename_i p hp
    have h1 := cmd_ds x.file x.no (tr x.text) p.1 p.2
    have h2 := (command_le hp).2
    have h3 := trim_size x.text
    omega
  · have := read_ds x.file x.no (tr x.text) rest
    omega
theorem Turn.below {w w' : World} {O F : Nat → Prop} (hb : Below w.heap.size w w') : Turn w w' O F O F := ⟨Chg.below hb O, fun _ h => .inl h, fun _ h => .inl h, fun _ h => h⟩
theorem cmds_fig (n : Nat) : findF (cmds n) ⟨#[102, 105, 103]⟩ = some ⟨⟨#[102, 105, 103]⟩, figV n, []⟩ := by
  simp [findF, cmds]
theorem cmds_note (n : Nat) : findF (cmds n) ⟨#[110, 111, 116, 101]⟩ = some ⟨⟨#[110, 111, 116, 101]⟩, noteV (n + 2) n, []⟩ := by
  simp [findF, cmds]
theorem cmds_tip (n : Nat) : findF (cmds n) ⟨#[116, 105, 112]⟩ = some ⟨⟨#[116, 105, 112]⟩, noteV (n + 3) n, []⟩ := by
  simp [findF, cmds]
theorem cmds_warn (n : Nat) : findF (cmds n) ⟨#[119, 97, 114, 110]⟩ = some ⟨⟨#[119, 97, 114, 110]⟩, noteV (n + 4) n, []⟩ := by
  simp [findF, cmds]
theorem cmds_other (n : Nat) {s : ByteArray} (h1 : ¬ s = ⟨#[102, 105, 103]⟩) (h2 : ¬ s = ⟨#[110, 111, 116, 101]⟩) (h3 : ¬ s = ⟨#[116, 105, 112]⟩) (h4 : ¬ s = ⟨#[119, 97, 114, 110]⟩) : findF (cmds n) s = none := by
  unfold findF
  rw [List.find?_eq_none]
  intro e he
  simp only [cmds, List.mem_cons, List.not_mem_nil, or_false] at he
  rcases he with rfl | rfl | rfl | rfl <;> simp <;> intro e <;> first | exact h1 e.symm | exact h2 e.symm | exact h3 e.symm | exact h4 e.symm
set_option maxRecDepth 100000 in
set_option maxHeartbeats 8000000 in
theorem bparse_any {w : World} {L : Nat → Prop} {lv : Value} {ls : List Ln} (hL : LinesAt w L lv ls) (hLl : ∀ k, L k → k < w.heap.size) {m : Int} (hm : Glob m w) (hwt : wtX ls ≤ 100000) :
    Calls Tryz.prog 11 #[lv] w fun e w' => ∃ O F rb bv dv, e = .returned (.tuple #[bv, dv]) ∧ Rdr w' O F rb lv ls.length bv (blocksOf ls) dv (diagsOf ls) ∧ (∀ k, O k → w.heap.size ≤ k) ∧ (∀ k, F k → w.heap.size ≤ k) ∧ Below w.heap.size w w' := by
  have hsz : ∀ x ∈ ls, x.text.size ≤ 100000 := fun x hx => by have := wtX_mem hx; omega
  have hn : ls.length ≤ 100000 := by have := wtX_len ls; omega
  obtain ⟨A, c, rfl, hcl⟩ : ∃ A c, lv = .slice A ls.length c ∧ ls.length ≤ c := by
    obtain ⟨A, c, h1, h2, _⟩ := hL
    exact ⟨A, c, h1, h2⟩
  have hw3 := hm.three
  have hH0 := Holds.new w tR #[.slice A ls.length c, .int .i64 0, .slice none 0 0, .slice none 0 0]
  have hB0 := (Below.refl w.heap.size w).alloc (Nat.le_refl _) (.cells #[.slice A ls.length c, .int .i64 0, .slice none 0 0, .slice none 0 0] tR)
  have CC := commands_any w.heap.size (w.alloc (.cells #[.slice A ls.length c, .int .i64 0, .slice none 0 0, .slice none 0 0] tR))
  rw [World.size_alloc] at CC
  obtain ⟨rb, hrb⟩ : ∃ rb, w.heap.size = rb := ⟨_, rfl⟩
  rw [hrb] at hH0 CC hw3
  have etr : tR = 58 := rfl
  rw [etr] at hH0 CC hB0
  have HI := Lib.hid (And.intro hL (And.intro hLl (And.intro hm (And.intro hsz hrb))))
  have H0 := Lib.hid (And.intro hH0 hB0)
  clear hL hLl hm hsz hH0 hB0 etr
  go_enter Tryz.func11, Tryz.ntmps11
  go_wp2_with fail
  (try rw [hrb])
  refine CC.mono ?_
  clear CC hrb
  rintro e W1 ⟨rfl, tp, hfm, hpb, hk2, hk3, hk4, hbl1⟩
  have hH1 := H0.out.1.below hbl1 (Nat.lt_succ_self _)
  have hB1 : Below rb w W1 := by
    have := H0.out.2
    rw [HI.out.2.2.2.2] at this
    exact this.trans (hbl1.mono (Nat.le_succ _))
  have hn1 : rb + 1 < W1.heap.size := hpb.lt
  have hn4 : rb + 1 + 4 < W1.heap.size := hk4.lt
  have hR1 : Rdr W1 (fun k => k = rb) (fun _ => False) rb (.slice A ls.length c) 0 (.slice none 0 0) [] (.slice none 0 0) [] :=
    ⟨hH1, ⟨[], rfl, World.ownsRow_nil _ _ _ _, (fun _ _ _ h => by simp at h)⟩, World.ownsRow_nil _ _ _ _, rfl, (fun k hk => by cases hk), (fun k hk => by cases hk), (fun _ h => h.elim), (fun k hk => by omega), (fun _ h => h.elim)⟩
  have H1 := Lib.hid (And.intro hR1 (And.intro hB1 (And.intro hfm (And.intro hpb (And.intro hk2 (And.intro hk3 hk4))))))
  clear hH1 hB1 hR1 hfm hpb hk2 hk3 hk4 hbl1
  go_wp2
  go_loopg [6, 7, 8, 9, 10, 11, 12] ls.length (fun q v6 v7 v8 v9 v10 v11 v12 wr => ∃ (pos : Nat) (O F : Nat → Prop) (bv dv : Value) (bs : List Bl) (ds : List Dg), pos + q = ls.length ∧ Hid (Rdr wr O F rb (.slice A ls.length c) pos bv bs dv ds ∧ Turn W1 wr (fun k => k = rb) (fun _ => False) O F ∧ bs ++ blocksOf (ls.drop pos) = blocksOf ls ∧ ds ++ diagsOf (ls.drop pos) = diagsOf ls ∧ bs.length ≤ pos ∧ ds.length + 3 * wtX (ls.drop pos) ≤ 3 * wtX ls))
  case atStart => exact ⟨0, _, _, _, _, [], [], by omega, H1.out.1, Turn.refl _ _ _, by simp, by simp, by simp, by simp⟩
  case round =>
    obtain ⟨pos, O, F, bv, dv, bs, ds, hq, HK⟩ := hrel
    have p0 : wr.cell? ⟨rb, 0, none⟩ = some (.slice A ls.length c) := HK.out.1.hold.cell 0
    have p1 : wr.cell? ⟨rb, 1, none⟩ = some (.int .i64 (pos : Int)) := HK.out.1.hold.cell 1
    have f1 := HK.out.1.hold.free 1
    by_cases hlt : pos < ls.length
    · obtain ⟨x, hx⟩ : ∃ x, ls[pos]? = some x := ⟨_, List.getElem?_eq_getElem hlt⟩
      have hCW : Chg w wr (fun k => k = rb) := (Chg.below (by rw [HI.out.2.2.2.2]; exact H1.out.2.1) _).trans HK.out.2.1.chg (fun k _ h => h)
      have hLr := HI.out.1.chg hCW (fun k hk e => by have := HI.out.2.1 k hk; have := HI.out.2.2.2.2; omega)
      obtain ⟨b, off, c1, hA, _, hb, l0, l1, l2⟩ := hLr.at hx
      obtain ⟨rfl, rfl⟩ : A = some ⟨b, off, none⟩ ∧ c = c1 := by cases hA; exact ⟨rfl, rfl⟩
      have hbr : b < rb := by have := HI.out.2.1 b hb; have := HI.out.2.2.2.2; omega
      have hrl := HK.out.1.hold.lt
      have hxs := HI.out.2.2.2.1 x (List.mem_of_getElem? hx)
      have CN := fun W => counted_any x.file x.text x.no W hxs
      have HX := Lib.hid (And.intro hx (And.intro hLr hCW))
      clear hLr hCW hA hx
      go_wp2_with fail
      have e1 : ((pos : Int) + 1) = ((pos + 1 : Nat) : Int) := by omega
      rw [e1]
      clear e1 l0 l1 l2 p0 p1 f1
      have hm2 := HK.out.1.moved (pos + 1)
      have hb2 : Below (wr.setCell ⟨rb, 1, none⟩ (.int .i64 ((pos + 1 : Nat) : Int))).heap.size (wr.setCell ⟨rb, 1, none⟩ (.int .i64 ((pos + 1 : Nat) : Int))) ((wr.setCell ⟨rb, 1, none⟩ (.int .i64 ((pos + 1 : Nat) : Int))).alloc (.cells #[.string x.file, .int .i64 x.no, .string x.text] 62)) := (Below.refl _ _).alloc (Nat.le_refl _) _
      have hr2 := hm2.below hb2
      have hX2 := Holds.new (wr.setCell ⟨rb, 1, none⟩ (.int .i64 ((pos + 1 : Nat) : Int))) 62 #[.string x.file, .int .i64 x.no, .string x.text]
      have ht2 : Turn W1 ((wr.setCell ⟨rb, 1, none⟩ (.int .i64 ((pos + 1 : Nat) : Int))).alloc (.cells #[.string x.file, .int .i64 x.no, .string x.text] 62)) (fun k => k = rb) (fun _ => False) O F := (HK.out.2.1.trans (HK.out.1.turn (pos + 1))).trans (Turn.below hb2)
      have hsz2 : (wr.setCell ⟨rb, 1, none⟩ (.int .i64 ((pos + 1 : Nat) : Int))).heap.size = wr.heap.size := by simp
      rw [hsz2] at hX2
      obtain ⟨lb, hlb⟩ : ∃ lb, wr.heap.size = lb := ⟨_, rfl⟩
      rw [hlb] at hX2
      have hlO : ¬ O lb := fun e => by have := HK.out.1.ltO _ e; omega
      obtain ⟨W2, hW2⟩ : ∃ W2, (wr.setCell ⟨rb, 1, none⟩ (.int .i64 ((pos + 1 : Nat) : Int))).alloc (.cells #[.string x.file, .int .i64 x.no, .string x.text] 62) = W2 := ⟨_, rfl⟩
      rw [hW2] at hr2 hX2 ht2 ⊢
      (try rw [hlb])
      have H2 := Lib.hid (And.intro hr2 (And.intro hX2 ht2))
      clear hm2 hb2 hr2 hX2 ht2 hsz2 hlb hW2
      obtain ⟨s1, hs1⟩ : ∃ s1, tr x.text = s1 := ⟨_, rfl⟩
      have hs1l : s1.size ≤ x.text.size := hs1 ▸ tr_le x.text
      have hs1d : trim x.text.data.toList = s1.data.toList := by rw [← hs1]; simp [tr]
      have CN1 := CN W2
      have hsv : strV (trim x.text.data.toList) = .string s1 := by rw [hs1d]; exact (strV_of rfl).symm
      rw [hsv] at CN1
      have hdrop : ls.drop pos = x :: ls.drop (pos + 1) := by
        rw [List.drop_eq_getElem_cons hlt]
        have e : ls[pos]'hlt = x := by have := List.getElem?_eq_getElem hlt; rw [HX.out.1] at this; exact (Option.some.inj this).symm
        rw [e]
      obtain ⟨T, hT⟩ : ∃ T, stepR x (ls.drop (pos + 1)) = T := ⟨_, rfl⟩
      have hbo : blocksOf (ls.drop pos) = T.2.1 ++ blocksOf (ls.drop (pos + 1 + T.1)) := by rw [hdrop, blocksOf_cons, hT, List.drop_drop]
      have hdo : diagsOf (ls.drop pos) = T.2.2 ++ diagsOf (ls.drop (pos + 1 + T.1)) := by rw [hdrop, diagsOf_cons, hT, List.drop_drop]
      have hT1 : T.2.1.length ≤ 1 := hT ▸ step_one x _
      have hT3 : pos + 1 + T.1 ≤ ls.length := by
        have := step_le x (ls.drop (pos + 1))
        rw [hT, List.length_drop] at this
        omega
      have hwd : wtX (ls.drop pos) = x.text.size + 1 + wtX (ls.drop (pos + 1)) := by rw [hdrop, wtX]
      have hT2 : T.2.2.length + 3 * wtX (ls.drop (pos + 1 + T.1)) ≤ 3 * wtX (ls.drop pos) := by
        have h1 := step_ds x (ls.drop (pos + 1))
        have h2 := wtX_split (ls.drop (pos + 1)) T.1
        rw [hT] at h1
        rw [List.drop_drop] at h2
        omega
      have hwl : wtX (ls.drop pos) ≤ wtX ls := by have := wtX_split ls pos; omega
      have NEXT : Hid (∀ (w5 : World) (O5 F5 : Nat → Prop) (bv5 dv5 : Value), Rdr w5 O5 F5 rb (.slice (some ⟨b, off, none⟩) ls.length c) (pos + 1 + T.1) bv5 (bs ++ T.2.1) dv5 (ds ++ T.2.2) → Turn W1 w5 (fun k => k = rb) (fun _ => False) O5 F5 →
          ∃ (pos' : Nat) (O F : Nat → Prop) (bv dv : Value) (bs ds' : _), pos' + (ls.length - (pos + 1 + T.1)) = ls.length ∧ Hid (Rdr w5 O F rb (.slice (some ⟨b, off, none⟩) ls.length c) pos' bv bs dv ds' ∧ Turn W1 w5 (fun k => k = rb) (fun _ => False) O F ∧ bs ++ blocksOf (ls.drop pos') = blocksOf ls ∧ ds' ++ diagsOf (ls.drop pos') = diagsOf ls ∧ bs.length ≤ pos' ∧ ds'.length + 3 * wtX (ls.drop pos') ≤ 3 * wtX ls)) := by
        intro w5 O5 F5 bv5 dv5 h1 h2
        refine ⟨pos + 1 + T.1, O5, F5, bv5, dv5, bs ++ T.2.1, ds ++ T.2.2, by omega, h1, h2, ?_, ?_, ?_, ?_⟩
        · rw [List.append_assoc, ← hbo]; exact HK.out.2.2.1
        · rw [List.append_assoc, ← hdo]; exact HK.out.2.2.2.1
        · have := HK.out.2.2.2.2.1; rw [List.length_append]; omega
        · have := HK.out.2.2.2.2.2; rw [List.length_append]; omega
      have hdl : ds.length ≤ 300000 := by have := HK.out.2.2.2.2.2; omega
      have hbl : bs.length ≤ 100000 := by have := HK.out.2.2.2.2.1; omega
      have hw1 : wtX (ls.drop (pos + 1)) + s1.size ≤ 100000 := by omega
      have hTs : T = match commandB s1.data.toList with | some p => cmdR x.file x.no s1 p.1 p.2 | none => readR x.file x.no s1 (ls.drop (pos + 1)) := by
        rw [← hT]
        unfold stepR
        rw [hs1d, hs1]
        cases commandB s1.data.toList <;> rfl
      have HTS := Lib.hid hTs
      clear CN hs1 hs1d hsv hdrop hT hbo hdo hT2 hwd hwl hTs
      refine CN1.mono ?_
      clear CN1
      rintro e w3 ⟨rfl, hb3⟩
      have CM := command_any s1 w3 (by omega)
      have hcl2 := @command_le s1.data.toList
      have ht3 := H2.out.2.2.trans (Turn.below hb3)
      have hr3 := H2.out.1.below hb3
      have hX3 := H2.out.2.1.below hb3 H2.out.2.1.lt
      have H3 := Lib.hid (And.intro ht3 (And.intro hr3 hX3))
      clear ht3 hr3 hX3 hb3
      unfold commandV at CM
      have HTO := HTS.out
      cases hcm : commandB s1.data.toList with
      | none =>
        rw [hcm] at CM HTO
        simp only at CM HTO
        unfold strV at CM
        clear hcl2
        go_wp2_with fail
        refine CM.mono ?_
        clear CM
        rintro e w4 ⟨rfl, hb4⟩
        have hb34 : Turn w3 w4 O F O F := Turn.below hb4
        have ht4 := H3.out.1.trans hb34
        have hr4 := H3.out.2.1.below hb4
        have hX4 := H3.out.2.2.below hb4 H3.out.2.2.lt
        have HX4 := Lib.hid hX4
        have hbmO : ¬ (fun k => k = rb) (rb + 1 + 1) := by simp; omega
        have hfm4 := H1.out.2.2.1.chg ht4.chg hbmO
        have hpb4 := ht4.chg.holds (by show ¬ (rb + 1 = rb); omega) H1.out.2.2.2.1
        have hk24 := ht4.chg.holds (by show ¬ (rb + 1 + 2 = rb); omega) H1.out.2.2.2.2.1
        have hk34 := ht4.chg.holds (by show ¬ (rb + 1 + 3 = rb); omega) H1.out.2.2.2.2.2.1
        have hk44 := ht4.chg.holds (by show ¬ (rb + 1 + 4 = rb); omega) H1.out.2.2.2.2.2.2
        have hO3 : ∀ k, O k → 3 ≤ k := fun k hk => by rcases ht4.inO k hk with e | e; omega; omega
        have hOlt : ∀ k, O k → k = rb ∨ W1.heap.size ≤ k := ht4.inO
        have hpO : ¬ O (rb + 1) := fun e => by rcases hOlt _ e with e | e <;> omega
        have hszw : W1.heap.size ≤ w4.heap.size := ht4.chg.size
        have hCW4 : Chg w w4 (fun k => k = rb) := (Chg.below (by rw [HI.out.2.2.2.2]; exact H1.out.2.1) _).trans ht4.chg (fun k _ h => h)
        have hm4 : Glob m w4 := HI.out.2.2.1.chg hCW4 (fun k hk => by omega)
        have hL4 := HI.out.1.chg hCW4 (fun k hk e => by have := HI.out.2.1 k hk; have := HI.out.2.2.2.2; omega)
        have hLO : ∀ k, L k → ¬ O k := fun k hk e => by have := HI.out.2.1 k hk; have := HI.out.2.2.2.2; rcases hOlt k e with e | e <;> omega
        clear hb34 hbmO hCW4
        have RA := read_any hr4 x.file x.text x.no s1 (by omega) hm4 hO3 (by omega) hL4 hLO (fun k hk => by have := HI.out.2.1 k hk; have := HI.out.2.2.2.2; omega) HI.out.2.2.2.1 (by omega) (by omega) (by omega) (by omega)
        obtain ⟨d0, d1, d2⟩ := cells3 hX4
        have H4 := Lib.hid ht4
        have HE := Lib.hid HTO
        clear ht4 hr4 hX4 hm4 hL4 hO3 HTO hb4 hfm4 hpb4 hk24 hk34 hk44 hpO hOlt
        go_wp2_with fail
        refine RA.mono ?_
        clear RA
        rintro e w5 ⟨rfl, O5, F5, bv5, dv5, hr5, ht5⟩
        have H5 := Lib.hid (And.intro hr5 ht5)
        clear hr5 ht5 d0 d1 d2
        go_wp2
        go_roundg (ls.length - (pos + 1 + T.1))
        case measure => omega
        case rel => exact NEXT.out w5 O5 F5 bv5 dv5 (by rw [HE.out]; exact H5.out.1) (H4.out.trans H5.out.2)
      | some p =>
        rw [hcm] at CM HTO
        simp only at CM HTO
        obtain ⟨wd, bh⟩ := p
        have hcl2 := hcl2 hcm
        simp only at CM HTO hcl2
        obtain ⟨wt, rfl⟩ : ∃ wt : ByteArray, wd = wt.data.toList := ⟨⟨wd.toArray⟩, by simp⟩
        obtain ⟨bt, rfl⟩ : ∃ bt : ByteArray, bh = bt.data.toList := ⟨⟨bh.toArray⟩, by simp⟩
        rw [← strV_of (s := wt) rfl, ← strV_of (s := bt) rfl] at CM
        obtain ⟨hwz, hbz⟩ := hcl2
        rw [← size_list, ← size_list] at hwz hbz
        have HCM := Lib.hid hcm
        clear hcm
        go_wp2_with fail
        refine CM.mono ?_
        clear CM
        rintro e w4 ⟨rfl, hb4⟩
        have hb34 : Turn w3 w4 O F O F := Turn.below hb4
        have ht4 := H3.out.1.trans hb34
        have hr4 := H3.out.2.1.below hb4
        have hX4 := H3.out.2.2.below hb4 H3.out.2.2.lt
        have HX4 := Lib.hid hX4
        have hbmO : ¬ (fun k => k = rb) (rb + 1 + 1) := by simp; omega
        have hfm4 := H1.out.2.2.1.chg ht4.chg hbmO
        have hpb4 := ht4.chg.holds (by show ¬ (rb + 1 = rb); omega) H1.out.2.2.2.1
        have hk24 := ht4.chg.holds (by show ¬ (rb + 1 + 2 = rb); omega) H1.out.2.2.2.2.1
        have hk34 := ht4.chg.holds (by show ¬ (rb + 1 + 3 = rb); omega) H1.out.2.2.2.2.2.1
        have hk44 := ht4.chg.holds (by show ¬ (rb + 1 + 4 = rb); omega) H1.out.2.2.2.2.2.2
        have hO3 : ∀ k, O k → 3 ≤ k := fun k hk => by rcases ht4.inO k hk with e | e; omega; omega
        have hOlt : ∀ k, O k → k = rb ∨ W1.heap.size ≤ k := ht4.inO
        have hpO : ¬ O (rb + 1) := fun e => by rcases hOlt _ e with e | e <;> omega
        have hszw : W1.heap.size ≤ w4.heap.size := ht4.chg.size
        have hCW4 : Chg w w4 (fun k => k = rb) := (Chg.below (by rw [HI.out.2.2.2.2]; exact H1.out.2.1) _).trans ht4.chg (fun k _ h => h)
        have hm4 : Glob m w4 := HI.out.2.2.1.chg hCW4 (fun k hk => by omega)
        have hL4 := HI.out.1.chg hCW4 (fun k hk e => by have := HI.out.2.1 k hk; have := HI.out.2.2.2.2; omega)
        have hLO : ∀ k, L k → ¬ O k := fun k hk e => by have := HI.out.2.1 k hk; have := HI.out.2.2.2.2; rcases hOlt k e with e | e <;> omega
        clear hb34 hbmO hCW4
        have hfb := faults_le bt.data.toList
        rw [← size_list] at hfb
        have hss : (⟨bt.data.toList.toArray⟩ : ByteArray) = bt := ba_ext (by simp)
        obtain ⟨d0, d1, d2⟩ := cells3 hX4
        have CFA := fault_any hr4 x.file x.text x.no 3 s1 (by omega)
        have e3 : ((3 : Nat) : Int) = 3 := rfl
        rw [e3] at CFA
        clear e3 hb4 hX4 hL4
        by_cases cf : wt = ⟨#[102, 105, 103]⟩
        · subst cf
          have LK := hfm4.lookz_ok (T := 59) str_under cmap_under (do_zero w4) (s := ⟨#[102, 105, 103]⟩) (by show (3 : Nat) ≤ maxLen; unfold maxLen; omega)
          rw [cmds_fig] at LK
          unfold figV at LK
          simp only [Option.isSome_some] at LK
          unfold cmdR at HTO
          rw [if_pos rfl] at HTO
          by_cases hbe : bt = ⟨#[]⟩
          · subst hbe
            rw [if_pos rfl] at HTO
            have FN := fig_none hr4 (rb + 1) x.file x.text x.no
            have H4 := Lib.hid ht4
            have HE := Lib.hid HTO
            clear ht4 hr4 hm4 hO3 hLO hfm4 hpb4 hk24 hk34 hk44 hpO hOlt HTO
            go_wp2_with fail
            refine FN.mono ?_
            clear FN LK
            rintro e w5 ⟨rfl, hr5, ht5⟩
            have CFA := fault_any hr5 x.file x.text x.no 3 s1 (by omega)
            have e3 : ((3 : Nat) : Int) = 3 := rfl
            rw [e3] at CFA
            have hX5 := ht5.chg.holds hlO HX4.out
            obtain ⟨d0, d1, d2⟩ := cells3 hX5
            have H5 := Lib.hid (And.intro hr5 ht5)
            clear hr5 ht5 hX5 e3
            go_wp2_with fail
            refine CFA.mono ?_
            clear CFA
            rintro e w6 ⟨rfl, O6, dv6, hr6, ht6⟩
            have H6 := Lib.hid (And.intro hr6 ht6)
            clear hr6 ht6 d0 d1 d2
            go_wp2
            go_roundg (ls.length - (pos + 1 + T.1))
            case measure => omega
            case rel => exact NEXT.out w6 O6 F bv dv6 (by rw [HE.out]; simpa [wordR] using H6.out.1) ((H4.out.trans H5.out.2).trans H6.out.2)
          · rw [if_neg (fun e => hbe (ba_ext (by rw [e])))] at HTO
            have FA := fig_any hr4 hpb4 x.file x.text x.no bt (by omega) hbe hm4 hO3 (by omega) (by omega)
            have H4 := Lib.hid ht4
            have HE := Lib.hid HTO
            clear ht4 hr4 hm4 hO3 hLO hfm4 hpb4 hk24 hk34 hk44 hpO hOlt HTO
            clear CFA hbe
            go_wp2_with fail
            refine FA.mono ?_
            clear FA LK
            rintro e w5 ⟨rfl, O5, F5, bv5, dv5, hr5, ht5⟩
            have H5 := Lib.hid (And.intro hr5 ht5)
            clear hr5 ht5 d0 d1 d2
            go_wp2
            go_roundg (ls.length - (pos + 1 + T.1))
            case measure => omega
            case rel => exact NEXT.out w5 O5 F5 bv5 dv5 (by rw [HE.out]; exact H5.out.1) (H4.out.trans H5.out.2)
        · have hw0 := cf
          by_cases cnote : wt = ⟨#[110, 111, 116, 101]⟩
          · subst cnote
            have LK := hfm4.lookz_ok (T := 59) str_under cmap_under (do_zero w4) (s := ⟨#[110, 111, 116, 101]⟩) (by show (4 : Nat) ≤ maxLen; unfold maxLen; omega)
            rw [cmds_note] at LK
            unfold noteV at LK
            simp only [Option.isSome_some] at LK
            unfold cmdR at HTO
            rw [if_neg (by decide), if_pos (by decide)] at HTO
            unfold noteR at HTO
            rw [hss] at HTO
            have NA := note1_any hr4 (kb := rb + 1 + 2) (pb := rb + 1) hk24 hpb4 (fun e => by rcases hOlt _ e with e | e <;> omega) hpO x.file x.text x.no bt (by omega) hm4 (by omega) (by omega)
            have H4 := Lib.hid ht4
            have HE := Lib.hid HTO
            clear ht4 hr4 hm4 hO3 hLO hfm4 hpb4 hk24 hk34 hk44 hpO hOlt HTO
            clear CFA
            go_wp2_with fail
            refine NA.mono ?_
            clear NA LK
            rintro e w5 ⟨rfl, O5, F5, bv5, dv5, hr5, ht5⟩
            have H5 := Lib.hid (And.intro hr5 ht5)
            clear hr5 ht5 d0 d1 d2
            go_wp2
            go_roundg (ls.length - (pos + 1 + T.1))
            case measure => omega
            case rel => exact NEXT.out w5 O5 F5 bv5 dv5 (by rw [HE.out]; exact H5.out.1) (H4.out.trans H5.out.2)
          · skip
            by_cases ctip : wt = ⟨#[116, 105, 112]⟩
            · subst ctip
              have LK := hfm4.lookz_ok (T := 59) str_under cmap_under (do_zero w4) (s := ⟨#[116, 105, 112]⟩) (by show (3 : Nat) ≤ maxLen; unfold maxLen; omega)
              rw [cmds_tip] at LK
              unfold noteV at LK
              simp only [Option.isSome_some] at LK
              unfold cmdR at HTO
              rw [if_neg (by decide), if_pos (by decide)] at HTO
              unfold noteR at HTO
              rw [hss] at HTO
              have NA := note1_any hr4 (kb := rb + 1 + 3) (pb := rb + 1) hk34 hpb4 (fun e => by rcases hOlt _ e with e | e <;> omega) hpO x.file x.text x.no bt (by omega) hm4 (by omega) (by omega)
              have H4 := Lib.hid ht4
              have HE := Lib.hid HTO
              clear ht4 hr4 hm4 hO3 hLO hfm4 hpb4 hk24 hk34 hk44 hpO hOlt HTO
              clear CFA
              go_wp2_with fail
              refine NA.mono ?_
              clear NA LK
              rintro e w5 ⟨rfl, O5, F5, bv5, dv5, hr5, ht5⟩
              have H5 := Lib.hid (And.intro hr5 ht5)
              clear hr5 ht5 d0 d1 d2
              go_wp2
              go_roundg (ls.length - (pos + 1 + T.1))
              case measure => omega
              case rel => exact NEXT.out w5 O5 F5 bv5 dv5 (by rw [HE.out]; exact H5.out.1) (H4.out.trans H5.out.2)
            · skip
              by_cases cwarn : wt = ⟨#[119, 97, 114, 110]⟩
              · subst cwarn
                have LK := hfm4.lookz_ok (T := 59) str_under cmap_under (do_zero w4) (s := ⟨#[119, 97, 114, 110]⟩) (by show (4 : Nat) ≤ maxLen; unfold maxLen; omega)
                rw [cmds_warn] at LK
                unfold noteV at LK
                simp only [Option.isSome_some] at LK
                unfold cmdR at HTO
                rw [if_neg (by decide), if_pos (by decide)] at HTO
                unfold noteR at HTO
                rw [hss] at HTO
                have NA := note1_any hr4 (kb := rb + 1 + 4) (pb := rb + 1) hk44 hpb4 (fun e => by rcases hOlt _ e with e | e <;> omega) hpO x.file x.text x.no bt (by omega) hm4 (by omega) (by omega)
                have H4 := Lib.hid ht4
                have HE := Lib.hid HTO
                clear ht4 hr4 hm4 hO3 hLO hfm4 hpb4 hk24 hk34 hk44 hpO hOlt HTO
                clear CFA
                go_wp2_with fail
                refine NA.mono ?_
                clear NA LK
                rintro e w5 ⟨rfl, O5, F5, bv5, dv5, hr5, ht5⟩
                have H5 := Lib.hid (And.intro hr5 ht5)
                clear hr5 ht5 d0 d1 d2
                go_wp2
                go_roundg (ls.length - (pos + 1 + T.1))
                case measure => omega
                case rel => exact NEXT.out w5 O5 F5 bv5 dv5 (by rw [HE.out]; exact H5.out.1) (H4.out.trans H5.out.2)
              · have LK := hfm4.lookz_ok (T := 59) str_under cmap_under (do_zero w4) (s := wt) (by unfold maxLen; omega)
                rw [cmds_other _ hw0 cnote ctip cwarn] at LK
                simp only [Option.isSome_none] at LK
                unfold cmdR at HTO
                rw [if_neg (fun e => hw0 (ba_ext e)), if_neg (fun e => by rcases e with e | e | e; exact cnote (ba_ext e); exact ctip (ba_ext e); exact cwarn (ba_ext e))] at HTO
                have H4 := Lib.hid ht4
                have HE := Lib.hid HTO
                clear ht4 hr4 hm4 hO3 hLO hfm4 hpb4 hk24 hk34 hk44 hpO hOlt HTO
                clear hw0 cnote ctip cwarn
                go_wp2_with fail
                refine CFA.mono ?_
                clear CFA LK
                rintro e w5 ⟨rfl, O5, dv5, hr5, ht5⟩
                have H5 := Lib.hid (And.intro hr5 ht5)
                clear hr5 ht5 d0 d1 d2
                go_wp2
                go_roundg (ls.length - (pos + 1 + T.1))
                case measure => omega
                case rel => exact NEXT.out w5 O5 F bv dv5 (by rw [HE.out]; simpa [wordR] using H5.out.1) (H4.out.trans H5.out.2)
    · obtain rfl : pos = ls.length := by omega
      have p2 : wr.cell? ⟨rb, 2, none⟩ = some bv := HK.out.1.hold.cell 2
      have p3 : wr.cell? ⟨rb, 3, none⟩ = some dv := HK.out.1.hold.cell 3
      obtain ⟨A1, k1, rfl⟩ : ∃ A c, bv = .slice A bs.length c := by
        obtain ⟨kvs, _, h2, _⟩ := HK.out.1.bl
        rcases h2.2 with ⟨h1, h2⟩ | ⟨g, cap, cur, h1, _⟩
        · exact ⟨none, 0, by rw [h1, h2]⟩
        · exact ⟨_, _, h1⟩
      obtain ⟨A2, k2, rfl⟩ : ∃ A c, dv = .slice A ds.length c := by
        rcases HK.out.1.dg.2 with ⟨h1, h2⟩ | ⟨g, cap, cur, h1, _⟩
        · exact ⟨none, 0, by rw [h1, h2]⟩
        · exact ⟨_, _, h1⟩
      go_wp2
      go_quiet (fail)
      go_wp2
      go_ret2
      have hCW : Chg w (wr.drewN nq) (fun k => k = rb) := ((Chg.below (by rw [HI.out.2.2.2.2]; exact H1.out.2.1) _).trans HK.out.2.1.chg (fun k _ h => h)).drewN nq
      have h1 := HK.out.1.chg ((Chg.refl wr (fun _ => False)).drewN nq) (fun _ _ h => h) (fun _ _ h => h)
      have h2 := HK.out.2.2.1
      have h3 := HK.out.2.2.2.1
      rw [List.drop_length, blocksOf_nil, List.append_nil] at h2
      rw [List.drop_length, diagsOf_nil, List.append_nil] at h3
      have h4 := HI.out.2.2.2.2
      refine ⟨O, F, rb, _, _, rfl, by rw [← h2, ← h3]; exact h1, fun k hk => ?_, fun k hk => ?_, hCW.toBelow (Nat.le_refl _) (fun k hk => by omega)⟩
      · rcases HK.out.2.1.inO k hk with e | e <;> omega
      · rcases HK.out.2.1.inF k hk with e | e
        · exact e.elim
        · omega
end Go.Proofs.YtcjmfjccjhdgjaaGreatDoor
namespace Go.Bd
open Go.RowKit
def lnsFrom (n : Nat) : List ByteArray → List Ln
  | [] => []
  | x :: l => ⟨⟨#[102]⟩, (n : Int), x⟩ :: lnsFrom (n + 1) l
def linesOf (xs : List ByteArray) : List Ln := lnsFrom 1 xs
theorem lnsFrom_append : ∀ (n : Nat) (a b : List ByteArray), lnsFrom n (a ++ b) = lnsFrom n a ++ lnsFrom (n + a.length) b
  | n, [], b => by simp [lnsFrom]
  | n, x :: a, b => by
    rw [List.cons_append, lnsFrom, lnsFrom, lnsFrom_append (n + 1) a b, List.length_cons, List.cons_append]
    congr 3; omega
theorem lnsFrom_length : ∀ (n : Nat) (a : List ByteArray), (lnsFrom n a).length = a.length
  | n, [] => rfl
  | n, x :: a => by rw [lnsFrom, List.length_cons, List.length_cons, lnsFrom_length]
theorem lnsFrom_wt : ∀ (n : Nat) (a : List ByteArray), wtX (lnsFrom n a) = (a.map (·.size)).sum + a.length
  | n, [] => rfl
  | n, x :: a => by rw [lnsFrom, wtX, lnsFrom_wt, List.map_cons, List.sum_cons, List.length_cons]; simp only; omega
def rowL (l : List Ln) : List Value := l.flatMap lnCells
theorem rowL_length (l : List Ln) : (rowL l).length = l.length * 3 := by
  induction l with
  | nil => rfl
  | cons x l ih => simp only [rowL, List.flatMap_cons, List.length_append, List.length_cons] at ih ⊢; rw [ih]; simp [lnCells]; omega
theorem rowL_append (a b : List Ln) : rowL (a ++ b) = rowL a ++ rowL b := by simp [rowL]
theorem rowL_get : ∀ {l : List Ln} {j : Nat} {x : Ln} {i : Nat} {u : Value}, l[j]? = some x → (lnCells x)[i]? = some u → (rowL l)[j * 3 + i]? = some u
  | [], j, x, i, u, h, _ => by simp at h
  | y :: l, 0, x, i, u, h, hu => by
    simp only [List.getElem?_cons_zero, Option.some.injEq] at h
    subst h
    have hi := (List.getElem?_eq_some_iff.1 hu).1
    simp only [rowL, List.flatMap_cons, Nat.zero_mul, Nat.zero_add]
    rw [List.getElem?_append_left hi]
    exact hu
  | y :: l, j + 1, x, i, u, h, hu => by
    simp only [List.getElem?_cons_succ] at h
    have ih := rowL_get (l := l) h hu
    have e : (lnCells y).length = 3 := rfl
    simp only [rowL, List.flatMap_cons] at ih ⊢
    rw [List.getElem?_append_right (by rw [e]; omega), e, show (j + 1) * 3 + i - 3 = j * 3 + i by omega]
    exact ih
theorem rowL_one {l : List Ln} {u : Value} (h : u ∈ rowL l) : u.oneCell' = true := by
  obtain ⟨x, _, hu⟩ := List.mem_flatMap.1 h
  simp only [lnCells, List.mem_cons, List.not_mem_nil, or_false] at hu
  rcases hu with rfl | rfl | rfl <;> rfl
theorem owns_form {w : World} {B sz n : Nat} {t : TypeId} {v : Value} {xs : List Value} (h : w.ownsRow B t sz v n xs) : ∃ A c, v = .slice A n c ∧ ∀ k, v.ownBlock = some k → B ≤ k ∧ k < w.heap.size := by
  rcases h.2 with ⟨h3, h4⟩ | ⟨g, cap, cur, h3, h4, h5, h6, _⟩
  · exact ⟨none, 0, by rw [h3, h4], by rw [h3]; intro k hk; cases hk⟩
  · refine ⟨_, _, h3, ?_⟩
    rw [h3]
    intro k hk
    have e : g = k := by simpa [Value.ownBlock] using hk
    exact e ▸ ⟨h4, (Array.getElem?_eq_some_iff.1 h5).1⟩
theorem lines_own {w : World} {B : Nat} {t : TypeId} {v : Value} {l : List Ln} (h : w.ownsRow B t 3 v l.length (rowL l)) : LinesAt w (fun k => B ≤ k ∧ k < w.heap.size) v l := by
  rcases h.2 with ⟨h1, h2⟩ | ⟨g, cap, cur, rfl, h2, h3, h4, _⟩
  · have e : l = [] := List.length_eq_zero_iff.1 h2
    subst e
    exact ⟨none, 0, by rw [h1]; rfl, Nat.le_refl _, fun hn => absurd rfl hn⟩
  · refine ⟨_, cap, rfl, h4, fun _ => ⟨g, 0, rfl, ⟨h2, (Array.getElem?_eq_some_iff.1 h3).1⟩, fun j x hj i u hu => ?_⟩⟩
    have h5 := h.cells (g := g) rfl _ _ (rowL_get hj hu)
    rw [addr_add] at h5
    rw [Nat.zero_add]
    exact h5
theorem LinesAt.more {w : World} {L L' : Nat → Prop} {v : Value} {ls : List Ln} (h : LinesAt w L v ls) (hk : ∀ k, L k → L' k) : LinesAt w L' v ls := by
  obtain ⟨A, c, h1, h2, h3⟩ := h
  refine ⟨A, c, h1, h2, fun hn => ?_⟩
  obtain ⟨b, off, h4, h5, h6⟩ := h3 hn
  exact ⟨b, off, h4, hk b h5, h6⟩
theorem rowBl_get : ∀ {l : List Bl} {kvs : List (Value × Value)} {j : Nat} {x : Bl} {kv : Value × Value} {i : Nat} {u : Value}, l[j]? = some x → kvs[j]? = some kv → (blCells x kv)[i]? = some u → (rowBl l kvs)[j * 9 + i]? = some u
  | [], _, j, x, kv, i, u, h, _, _ => by simp at h
  | y :: l, [], j, x, kv, i, u, _, h, _ => by simp at h
  | y :: l, ku :: kvs, 0, x, kv, i, u, h, h2, hu => by
    simp only [List.getElem?_cons_zero, Option.some.injEq] at h h2
    subst h h2
    have hi := (List.getElem?_eq_some_iff.1 hu).1
    rw [rowBl, Nat.zero_mul, Nat.zero_add, List.getElem?_append_left hi]
    exact hu
  | y :: l, ku :: kvs, j + 1, x, kv, i, u, h, h2, hu => by
    simp only [List.getElem?_cons_succ] at h h2
    have ih := rowBl_get (l := l) (kvs := kvs) h h2 hu
    have e : (blCells y ku).length = 9 := rfl
    rw [rowBl, List.getElem?_append_right (by rw [e]; omega), e, show (j + 1) * 9 + i - 9 = j * 9 + i by omega]
    exact ih
theorem rowD_get : ∀ {l : List Dg} {j : Nat} {x : Dg} {i : Nat} {u : Value}, l[j]? = some x → (dgCells x)[i]? = some u → (rowD l)[j * 4 + i]? = some u
  | [], j, x, i, u, h, _ => by simp at h
  | y :: l, 0, x, i, u, h, hu => by
    simp only [List.getElem?_cons_zero, Option.some.injEq] at h
    subst h
    have hi := (List.getElem?_eq_some_iff.1 hu).1
    rw [rowD, Nat.zero_mul, Nat.zero_add, List.getElem?_append_left hi]
    exact hu
  | y :: l, j + 1, x, i, u, h, hu => by
    simp only [List.getElem?_cons_succ] at h
    have ih := rowD_get (l := l) h hu
    have e : (dgCells y).length = 4 := rfl
    rw [rowD, List.getElem?_append_right (by rw [e]; omega), e, show (j + 1) * 4 + i - 4 = j * 4 + i by omega]
    exact ih
section
variable {w w' : World} {O F : Nat → Prop} {rb : Nat} {lv : Value} {pos : Nat} {bv : Value} {bs : List Bl} {dv : Value} {ds : List Dg}
theorem Rdr.bform (h : Rdr w O F rb lv pos bv bs dv ds) : ∃ A c, bv = .slice A bs.length c := by
  obtain ⟨kvs, _, h2, _⟩ := h.bl
  rcases h2.2 with ⟨h1, h2⟩ | ⟨g, cap, cur, h1, _⟩
  · exact ⟨none, 0, by rw [h1, h2]⟩
  · exact ⟨_, _, h1⟩
theorem Rdr.dform (h : Rdr w O F rb lv pos bv bs dv ds) : ∃ A c, dv = .slice A ds.length c := by
  rcases h.dg.2 with ⟨h1, h2⟩ | ⟨g, cap, cur, h1, _⟩
  · exact ⟨none, 0, by rw [h1, h2]⟩
  · exact ⟨_, _, h1⟩
theorem Rdr.blk_at {A : Option Addr} {n c : Nat} (h : Rdr w O F rb lv pos (.slice A n c) bs dv ds) {j : Nat} {x : Bl} (hx : bs[j]? = some x) : ∃ g sA sc rA rc, A = some ⟨g, 0, none⟩ ∧ O g ∧ Forest w F (.slice sA x.spans.length sc) x.spans ∧ RowsF w F (.slice rA x.rows.length rc) x.rows ∧
    w.cell? ⟨g, j * 9, none⟩ = some (.int .u8 (x.kind : Int)) ∧ w.cell? ⟨g, j * 9 + 1, none⟩ = some (.int .i64 (x.level : Int)) ∧ w.cell? ⟨g, j * 9 + 2, none⟩ = some (.bool x.ordered) ∧ w.cell? ⟨g, j * 9 + 3, none⟩ = some (.string x.label) ∧ w.cell? ⟨g, j * 9 + 4, none⟩ = some (.string x.text) ∧
    w.cell? ⟨g, j * 9 + 5, none⟩ = some (.slice sA x.spans.length sc) ∧ w.cell? ⟨g, j * 9 + 6, none⟩ = some (.slice rA x.rows.length rc) ∧ w.cell? ⟨g, j * 9 + 7, none⟩ = some (.string x.file) ∧ w.cell? ⟨g, j * 9 + 8, none⟩ = some (.int .i64 x.line) := by
  obtain ⟨kvs, h1, h2, h3⟩ := h.bl
  have hj := (List.getElem?_eq_some_iff.1 hx).1
  obtain ⟨kv, hkv⟩ : ∃ kv, kvs[j]? = some kv := ⟨_, List.getElem?_eq_getElem (by omega)⟩
  obtain ⟨hf, hr⟩ := h3 j x kv hx hkv
  obtain ⟨k1, k2⟩ := kv
  obtain ⟨sA, sc, rfl, _⟩ := hf.form
  obtain ⟨rA, rc, rfl, _⟩ := hr.len
  rcases h2.2 with ⟨e1, e2⟩ | ⟨g, cap, cur, e1, _⟩
  · omega
  injection e1 with e1 e2 e3
  subst e1
  have hc := fun i u hu => h2.cells (g := g) rfl _ u (rowBl_get (i := i) hx hkv hu)
  simp only [addr_add] at hc
  exact ⟨g, sA, sc, rA, rc, rfl, (h.oB g rfl).1, hf, hr, hc 0 _ rfl, hc 1 _ rfl, hc 2 _ rfl, hc 3 _ rfl, hc 4 _ rfl, hc 5 _ rfl, hc 6 _ rfl, hc 7 _ rfl, hc 8 _ rfl⟩
theorem Rdr.dg_at {A : Option Addr} {n c : Nat} (h : Rdr w O F rb lv pos bv bs (.slice A n c) ds) {j : Nat} {x : Dg} (hx : ds[j]? = some x) : ∃ g, A = some ⟨g, 0, none⟩ ∧ O g ∧
    w.cell? ⟨g, j * 4, none⟩ = some (.string x.file) ∧ w.cell? ⟨g, j * 4 + 1, none⟩ = some (.int .i64 x.line) ∧ w.cell? ⟨g, j * 4 + 2, none⟩ = some (.int .i64 (x.fault : Int)) ∧ w.cell? ⟨g, j * 4 + 3, none⟩ = some (.string x.text) := by
  have hj := (List.getElem?_eq_some_iff.1 hx).1
  rcases h.dg.2 with ⟨e1, e2⟩ | ⟨g, cap, cur, e1, _⟩
  · omega
  injection e1 with e1 e2 e3
  subst e1
  have hc := fun i u hu => h.dg.cells (g := g) rfl _ u (rowD_get (i := i) hx hu)
  simp only [addr_add] at hc
  exact ⟨g, rfl, (h.oD g rfl).1, hc 0 _ rfl, hc 1 _ rfl, hc 2 _ rfl, hc 3 _ rfl⟩
end
end Go.Bd
namespace Go.Proofs.YtcjmfjccjhdgjaaGreatDoor
open Go.RowKit Go.Bd
theorem step_count : ∀ l : List Ln, (blocksOf l).length ≤ l.length
  | [] => Nat.le_refl _
  | x :: rest => by
    have h1 := step_one x rest
    have h2 := step_count (rest.drop (stepR x rest).1)
    rw [blocksOf_cons, List.length_append, List.length_cons]
    rw [List.length_drop] at h2
    omega
termination_by l => l.length
decreasing_by simp; omega
theorem line_info : (Tryz.prog.info? 62).map (fun i => (i.zero, i.size, i.bytes)) = some (some (.agg #[.string ⟨#[]⟩, .int .i64 0, .string ⟨#[]⟩]), 3, 40) := by kernel_rfl
set_option maxRecDepth 100000 in
set_option maxHeartbeats 4000000 in
theorem of_any {w : World} {B : Nat} {v : Value} {xs : List ByteArray} (hR : Rd w B v (xs.map Value.string)) (hB : B ≤ w.heap.size) (hl : xs.length ≤ 100000) :
    Calls Tryz.prog 12 #[v] w fun e w' => ∃ lv, e = .returned lv ∧ w'.ownsRow w.heap.size 62 3 lv (linesOf xs).length (rowL (linesOf xs)) ∧ Below w.heap.size w w' := by
  obtain ⟨A, c, rfl, hcl, f⟩ := hR.form
  rw [List.length_map] at hcl ⊢
  have F : Hid (∀ (j : Nat) s, xs[j]? = some s → ∃ b off, A = some ⟨b, off, none⟩ ∧ b < w.heap.size ∧ w.cell? ⟨b, off + j, none⟩ = some (.string s)) := fun j s hj => by
    obtain ⟨b, off, h1, h2, h3⟩ := f j (.string s) (by rw [List.getElem?_map, hj]; rfl)
    exact ⟨b, off, h1, by omega, h3⟩
  clear hR f
  obtain ⟨n, hn⟩ : ∃ n, xs.length = n := ⟨_, rfl⟩
  rw [hn] at hl hcl ⊢
  obtain ⟨i0, hi0, hz0, hz1, hz2⟩ := info_parts line_info
  have HZ := Lib.hid (And.intro hi0 (And.intro hz0 (And.intro hz1 hz2)))
  have HN := Lib.hid hn
  clear hi0 hz0 hz1 hz2 hn
  go_enter Tryz.func12, Tryz.ntmps12
  go_wp2
  go_loopg [3, 4] n (fun q vo vi wr => ∃ k : Nat, k + q = n ∧ vi = .int .i64 (k : Int) ∧ Hid (wr.ownsRow w.heap.size 62 3 vo k (rowL (linesOf (xs.take k))) ∧ Below w.heap.size w wr))
  case atStart => exact ⟨0, by omega, rfl, World.ownsRow_nil _ _ _ _, Below.refl _ _⟩
  case round =>
    obtain ⟨k, hk, rfl, HK⟩ := hrel
    obtain ⟨OA, oc, rfl, _⟩ := owns_form HK.out.1
    by_cases hlt : k < n
    · obtain ⟨s, hs⟩ : ∃ s, xs[k]? = some s := ⟨_, List.getElem?_eq_getElem (by have := HN.out; omega)⟩
      obtain ⟨b, off, rfl, hb, hc0⟩ := F.out k s hs
      replace hc0 := (HK.out.2.cell (p := ⟨b, off + k, none⟩) hb).trans hc0
      have hBw := HK.out.2.size
      have htk : linesOf (xs.take (k + 1)) = linesOf (xs.take k) ++ [⟨⟨#[102]⟩, ((k + 1 : Nat) : Int), s⟩] := by
        unfold linesOf
        rw [List.take_add_one, hs, Option.toList_some, lnsFrom_append, List.length_take, HN.out, Nat.min_eq_left (by omega), Nat.add_comm 1 k]
        rfl
      have HT := Lib.hid htk
      clear htk hs
      go_wp2_with (at_builtin; refine wpList_append_lies _ (by rfl) _ _ _ (by rfl) w.heap.size 62 i0 _ 3 40 Tryz.underlying29 HZ.out.1 HZ.out.2.1 HZ.out.2.2.1 HZ.out.2.2.2 rfl (by omega) (.slice OA k oc) k (rowL (linesOf (xs.take k))) (by rfl) (HK.out.1.alloc _) ⟨wr.heap.size, 0, none⟩ 1 1 [.string ⟨#[102]⟩, .int .i64 ((k : Int) + 1), .string s] (by rfl) (by rfl) (World.news_of_block (cs := #[.string ⟨#[102]⟩, .int .i64 ((k : Int) + 1), .string s]) (t := 62) (fr := (0, 0)) (heap_alloc_new wr _)) (by simp [Value.oneCell']) (by omega) (by unfold maxLen; omega) (by omega) (by simp; omega) (wr.heap.size + 1) (by simp) ?_)
      intro g cap w2 ho2 hg2 _ _
      have hb2 : Below w.heap.size w w2 := (HK.out.2.alloc hBw _).grown hg2 (by simp; omega) (fun q hq => by obtain ⟨_, _, _, hb⟩ := owns_form HK.out.1; exact (hb q hq).1)
      have H2 : Hid (w2.ownsRow w.heap.size 62 3 (.slice (some ⟨g, 0, none⟩) (k + 1) cap) (k + 1) (rowL (linesOf (xs.take (k + 1)))) ∧ Below w.heap.size w w2) := Lib.hid ⟨by rw [HT.out, rowL_append]; exact ho2, hb2⟩
      clear ho2 hg2 hb2
      go_wp2
      go_roundg (gk - 1)
      case measure => omega
      case rel => exact ⟨k + 1, by omega, by go_num, H2.out⟩
    · obtain rfl : k = n := by omega
      have H := HK.out
      rw [List.take_of_length_le (by have := HN.out; omega)] at H
      have H2 := Lib.hid H
      clear H
      go_wp2
      go_ret
      refine ⟨_, rfl, ?_, H2.out.2⟩
      have e : (linesOf xs).length = k := by unfold linesOf; rw [lnsFrom_length]; exact HN.out
      rw [e]
      exact H2.out.1
end Go.Proofs.YtcjmfjccjhdgjaaGreatDoor
namespace Go.Bd
open Go.RowKit
def kindV (k : Nat) : Value := .int .u8 (k : Int)
def wtT (xs : List ByteArray) : Nat := (xs.map (·.size)).sum + xs.length
theorem linesOf_wt (xs : List ByteArray) : wtX (linesOf xs) = wtT xs := lnsFrom_wt 1 xs
theorem linesOf_length (xs : List ByteArray) : (linesOf xs).length = xs.length := lnsFrom_length 1 xs
theorem wtT_len (xs : List ByteArray) : xs.length ≤ wtT xs := by unfold wtT; omega
theorem Glob.below {m : Int} {w w' : World} (h : Glob m w) (hb : Below w.heap.size w w') : Glob m w' := h.chg (Chg.below hb (fun _ => False)) (fun _ h => h.elim)
end Go.Bd
namespace Go.Proofs.YtcjmfjccjhdgjaaGreatDoor
open Go.RowKit Go.Bd
def kindsOf (xs : List ByteArray) : List Nat := if (diagsOf (linesOf xs)).length = 0 then (blocksOf (linesOf xs)).map (·.kind) else []
def Parsed (B : Nat) (w' : World) (xs : List ByteArray) (e : Ending) : Prop := ∃ O F rb lv bv dv, e = .returned (.tuple #[bv, dv]) ∧ Rdr w' O F rb lv (linesOf xs).length bv (blocksOf (linesOf xs)) dv (diagsOf (linesOf xs)) ∧ (∀ k, O k → B ≤ k) ∧ ∀ k, F k → B ≤ k
theorem parsed_any {w0 w : World} {xs : List ByteArray} {lv : Value} {m : Int} (hm : Glob m w) (hlt : wtT xs ≤ 100000) (ho : w.ownsRow w0.heap.size 62 3 lv (linesOf xs).length (rowL (linesOf xs))) (hb : Below w0.heap.size w0 w) :
    Calls Tryz.prog 11 #[lv] w fun e w' => Parsed w0.heap.size w' xs e ∧ Below w.heap.size w w' := by
  refine (bparse_any (lines_own ho) (fun k hk => hk.2) hm (by rw [linesOf_wt]; exact hlt)).mono ?_
  rintro e w' ⟨O, F, rb, bv, dv, he, hr, hO, hF, hb2⟩
  have := hb.size
  exact ⟨⟨O, F, rb, lv, bv, dv, he, hr, fun k hk => by have := hO k hk; omega, fun k hk => by have := hF k hk; omega⟩, hb2⟩
theorem kind_info : (Tryz.prog.info? 31).map (fun i => (i.zero, i.size, i.bytes)) = some (some (.int .u8 0), 1, 1) := by kernel_rfl
set_option maxRecDepth 100000 in
set_option maxHeartbeats 4000000 in
theorem kinds_any {w : World} {B : Nat} {v : Value} {xs : List ByteArray} (hR : Rd w B v (xs.map Value.string)) (hB : B ≤ w.heap.size) {m : Int} (hm : Glob m w) (hwt : wtT xs ≤ 100000) :
    Calls Tryz.prog 19 #[v] w fun e w' => ∃ kv, e = .returned kv ∧ w'.ownsRow w.heap.size 31 1 kv (kindsOf xs).length ((kindsOf xs).map kindV) ∧ Below w.heap.size w w' := by
  have hxl := wtT_len xs
  have CO := of_any hR hB (by omega)
  have HM := Lib.hid hm
  clear hR hm
  go_enter Tryz.func19, Tryz.ntmps19
  go_wp2_with fail
  refine CO.mono ?_
  clear CO
  rintro e w1 ⟨lv, rfl, ho, hb1⟩
  have CP := parsed_any (HM.out.below hb1) hwt ho hb1
  have HB1 := Lib.hid hb1
  clear ho hb1
  go_wp2_with fail
  refine CP.mono ?_
  clear CP
  rintro e w2 ⟨⟨O, F, rb, lv2, bv, dv, rfl, hr, hO, hF⟩, hb2⟩
  have hbb := HB1.out.trans (hb2.mono HB1.out.size)
  obtain ⟨BA, bc, rfl⟩ := hr.bform
  obtain ⟨DA, dc, rfl⟩ := hr.dform
  obtain ⟨bs, hbs⟩ : ∃ bs, blocksOf (linesOf xs) = bs := ⟨_, rfl⟩
  obtain ⟨ds, hds⟩ : ∃ ds, diagsOf (linesOf xs) = ds := ⟨_, rfl⟩
  have hko : kindsOf xs = if ds.length = 0 then bs.map (·.kind) else [] := by unfold kindsOf; rw [hbs, hds]
  rw [hbs, hds] at hr
  have hbl : bs.length ≤ 100000 := by
    have h1 := step_count (linesOf xs)
    rw [hbs, linesOf_length] at h1
    omega
  rw [hbs, hds]
  have HR := Lib.hid (And.intro hr (And.intro hbb hO))
  have HK := Lib.hid hko
  obtain ⟨nb, hnb⟩ : ∃ nb, bs.length = nb := ⟨_, rfl⟩
  rw [hnb] at hbl ⊢
  have HNB := Lib.hid hnb
  have HW2 := Lib.hid hbb.size
  clear hr hbb hO hF hb2 hbs hds hko hnb
  by_cases hd0 : ds.length = 0
  · have hko : kindsOf xs = bs.map (·.kind) := by rw [HK.out, if_pos hd0]
    have HKO := Lib.hid hko
    rw [hd0]
    clear hd0 hko
    go_wp2
    go_loopg [5, 6] nb (fun q vk vi wr => ∃ k : Nat, k + q = nb ∧ vi = .int .i64 (k : Int) ∧ Hid (wr.ownsRow w2.heap.size 31 1 vk k (((bs.map (·.kind)).take k).map kindV) ∧ Below w2.heap.size w2 wr))
    case atStart => exact ⟨0, by omega, rfl, World.ownsRow_nil _ _ _ _, Below.refl _ _⟩
    case round =>
      obtain ⟨k, hk, rfl, HI⟩ := hrel
      obtain ⟨KA, kc, rfl, _⟩ := owns_form HI.out.1
      by_cases hlt : k < nb
      · obtain ⟨x, hx⟩ : ∃ x, bs[k]? = some x := ⟨_, List.getElem?_eq_getElem (by have := HNB.out; omega)⟩
        have hrw := HR.out.1.below HI.out.2
        obtain ⟨g, sA, sc, rA, rc, rfl, hgO, _, _, c0, _⟩ := hrw.blk_at hx
        have htk : ((bs.map (·.kind)).take (k + 1)).map kindV = ((bs.map (·.kind)).take k).map kindV ++ [kindV x.kind] := by rw [List.take_add_one, List.getElem?_map, hx]; simp
        have HTK := Lib.hid htk
        have hws := HI.out.2.size
        clear hrw htk hx hgO
        go_wp2_with (at_builtin; refine wpList_app1 _ rfl _ _ 54 rfl w2.heap.size 31 (.int .u8 0) 1 Tryz.underlying54 kind_info rfl _ k _ rfl (HI.out.1.alloc _) _ 1 (.int .u8 (x.kind : Int)) rfl (by simp) rfl (by unfold maxLen; omega) (by omega) (by simp; omega) ?_)
        intro v1 w3 hown3 hgr3
        have hb3 : Below w2.heap.size w2 w3 := (HI.out.2.alloc hws _).grown hgr3 (by simp; omega) (fun q hq => by obtain ⟨_, _, _, hb⟩ := owns_form HI.out.1; exact (hb q hq).1)
        have H3 : Hid (w3.ownsRow w2.heap.size 31 1 v1 (k + 1) (((bs.map (·.kind)).take (k + 1)).map kindV) ∧ Below w2.heap.size w2 w3) := Lib.hid ⟨by rw [HTK.out, List.map_take, List.map_map]; exact hown3, hb3⟩
        clear hown3 hgr3 hb3
        go_wp2
        go_roundg (gk - 1)
        case measure => omega
        case rel => exact ⟨k + 1, by omega, by go_num, H3.out⟩
      · obtain rfl : k = nb := by omega
        have H := HI.out
        rw [List.take_of_length_le (by rw [List.length_map]; have := HNB.out; omega)] at H
        have H2 := Lib.hid H
        clear H
        go_wp2
        go_ret
        refine ⟨_, rfl, ?_, HR.out.2.1.trans (H2.out.2.mono HW2.out)⟩
        rw [HKO.out, List.length_map, HNB.out]
        exact own_mono H2.out.1 HW2.out
  · have hko : kindsOf xs = [] := by rw [HK.out, if_neg hd0]
    have hd1 : ¬ (ds.length : Int) = 0 := by omega
    have HKO := Lib.hid hko
    clear hko hd0
    go_wp2
    go_loopg [5, 6] nb (fun q vk vi wr => q = nb ∧ vk = .slice none 0 0 ∧ vi = .int .i64 0 ∧ Hid (Below w2.heap.size w2 wr))
    case atStart => exact ⟨rfl, rfl, rfl, Below.refl _ _⟩
    case round =>
      obtain ⟨hq, rfl, rfl, HI⟩ := hrel
      by_cases hlt : 0 < nb
      · go_wp2
        go_ret
        refine ⟨_, rfl, ?_, HR.out.2.1.trans (HI.out.mono HW2.out)⟩
        rw [HKO.out]
        exact World.ownsRow_nil _ _ _ _
      · obtain rfl : nb = 0 := by omega
        go_wp2
        go_ret
        refine ⟨_, rfl, ?_, HR.out.2.1.trans (HI.out.mono HW2.out)⟩
        rw [HKO.out]
        exact World.ownsRow_nil _ _ _ _
set_option maxRecDepth 100000 in
set_option maxHeartbeats 4000000 in
theorem are_any {w : World} {B : Nat} {v1 v2 : Value} {ks js : List Nat} (h1 : Rd w B v1 (ks.map kindV)) (h2 : Rd w B v2 (js.map kindV)) (hB : B ≤ w.heap.size) (hl : ks.length ≤ 100000) (hl2 : js.length ≤ 100000) :
    Calls Tryz.prog 18 #[v1, v2] w fun e w' => e = .returned (.bool (decide (ks = js))) ∧ Below w.heap.size w w' := by
  obtain ⟨A1, c1, rfl, hc1, f1⟩ := h1.form
  obtain ⟨A2, c2, rfl, hc2, f2⟩ := h2.form
  rw [List.length_map] at hc1 hc2 ⊢
  rw [List.length_map]
  have F1 : Hid (∀ (j k : Nat), ks[j]? = some k → ∃ b off, A1 = some ⟨b, off, none⟩ ∧ b < w.heap.size ∧ w.cell? ⟨b, off + j, none⟩ = some (.int .u8 (k : Int))) := fun j k hj => by
    obtain ⟨b, off, e1, e2, e3⟩ := f1 j (kindV k) (by rw [List.getElem?_map, hj]; rfl)
    exact ⟨b, off, e1, by omega, e3⟩
  have F2 : Hid (∀ (j k : Nat), js[j]? = some k → ∃ b off, A2 = some ⟨b, off, none⟩ ∧ b < w.heap.size ∧ w.cell? ⟨b, off + j, none⟩ = some (.int .u8 (k : Int))) := fun j k hj => by
    obtain ⟨b, off, e1, e2, e3⟩ := f2 j (kindV k) (by rw [List.getElem?_map, hj]; rfl)
    exact ⟨b, off, e1, by omega, e3⟩
  clear h1 h2 f1 f2
  obtain ⟨n, hn⟩ : ∃ n, ks.length = n := ⟨_, rfl⟩
  obtain ⟨q, hq⟩ : ∃ q, js.length = q := ⟨_, rfl⟩
  rw [hn] at hc1 hl ⊢
  rw [hq] at hc2 hl2 ⊢
  have HN := Lib.hid (And.intro hn hq)
  clear hn hq
  by_cases hnq : n = q
  · subst hnq
    obtain ⟨r, hr⟩ : ∃ r, decide (ks = js) = r := ⟨_, rfl⟩
    rw [hr]
    have HR := Lib.hid hr
    clear hr
    go_enter Tryz.func18, Tryz.ntmps18
    go_wp2
    go_loopg [5] n (fun m vi wr => ∃ k : Nat, k + m = n ∧ vi = .int .i64 (k : Int) ∧ Hid ((∀ j, j < k → ks[j]? = js[j]?) ∧ Below w.heap.size w wr))
    case atStart => exact ⟨0, by omega, rfl, fun j h => absurd h (by omega), Below.refl _ _⟩
    case round =>
      obtain ⟨k, hk, rfl, HI⟩ := hrel
      by_cases hlt : k < n
      · obtain ⟨a, ha⟩ : ∃ a, ks[k]? = some a := ⟨_, List.getElem?_eq_getElem (by have := HN.out.1; omega)⟩
        obtain ⟨b, hb⟩ : ∃ b, js[k]? = some b := ⟨_, List.getElem?_eq_getElem (by have := HN.out.2; omega)⟩
        obtain ⟨g1, o1, rfl, hg1, l1⟩ := F1.out k a ha
        obtain ⟨g2, o2, rfl, hg2, l2⟩ := F2.out k b hb
        replace l1 := (HI.out.2.cell (p := ⟨g1, o1 + k, none⟩) hg1).trans l1
        replace l2 := (HI.out.2.cell (p := ⟨g2, o2 + k, none⟩) hg2).trans l2
        have HA := Lib.hid (And.intro ha hb)
        clear ha hb
        by_cases hab : a = b
        · subst hab
          go_wp2
          go_quiet (fail)
          go_wp2
          go_roundg (gk - 1)
          case measure => omega
          case rel => exact ⟨k + 1, by omega, by go_num, (fun j hj => by
            by_cases hjk : j < k
            · exact HI.out.1 j hjk
            · obtain rfl : j = k := by omega
              rw [HA.out.1, HA.out.2]), Go.below_drewN HI.out.2 _⟩
        · have ht : ((a : Int) != (b : Int)) = true := by simp; omega
          have ht2 : ((a : Int) == (b : Int)) = false := by simp; omega
          have hv : r = false := by
            rw [← HR.out]
            exact decide_eq_false (fun e => by rw [e, HA.out.2] at HA; have := HA.out.1; exact hab (Option.some.inj this).symm)
          have HV := Lib.hid hv
          clear hab hv
          go_wp2
          go_quiet (fail)
          go_wp2
          go_ret
          exact ⟨ret_bool HV.out.symm, Go.below_drewN HI.out.2 _⟩
      · have hv : r = true := by
          rw [← HR.out]
          refine decide_eq_true (List.ext_getElem? (fun j => ?_))
          by_cases hj : j < n
          · exact HI.out.1 j (by omega)
          · rw [List.getElem?_eq_none (by have := HN.out.1; omega), List.getElem?_eq_none (by have := HN.out.2; omega)]
        have HV := Lib.hid hv
        clear hv
        go_wp2
        go_ret
        exact ⟨ret_bool HV.out.symm, HI.out.2⟩
  · have hv : decide (ks = js) = false := decide_eq_false (fun e => hnq (by rw [← HN.out.1, ← HN.out.2, e]))
    have ht : ((n : Int) == (q : Int)) = false := by simp; omega
    have ht2 : ((n : Int) != (q : Int)) = true := by simp; omega
    have hne : ¬ (n : Int) = (q : Int) := by omega
    rw [hv]
    clear hv hnq
    go_enter Tryz.func18, Tryz.ntmps18
    go_wp2
    go_ret
    exact ⟨rfl, Below.refl _ _⟩
end Go.Proofs.YtcjmfjccjhdgjaaGreatDoor
namespace Go.Bd
def eX : List ByteArray := [⟨#[124, 61, 61, 61, 84, 32, 35, 116]⟩, ⟨#[124, 32, 97, 32, 124, 32, 98]⟩, ⟨#[124, 32, 99]⟩, ⟨#[124, 61, 61, 61]⟩]
def eU : List ByteArray := [⟨#[45, 45, 45, 45]⟩, ⟨#[120]⟩]
def eW : List ByteArray := [⟨#[33, 102, 105, 103, 32, 97, 46, 112, 110, 103, 32, 65, 32, 98, 32, 35, 102]⟩, ⟨#[33, 102, 111, 111]⟩]
def eK : List ByteArray := [⟨#[61, 32, 84, 32, 35, 116]⟩, ⟨#[]⟩, ⟨#[97]⟩, ⟨#[98]⟩, ⟨#[42, 32, 99]⟩]
def eL : List ByteArray := [⟨#[45, 45, 45, 45]⟩, ⟨#[42, 32, 120]⟩, ⟨#[45, 45, 45, 45]⟩, ⟨#[33, 116, 105, 112, 32, 97]⟩, ⟨#[33, 32, 97]⟩]
end Go.Bd
namespace Go.Proofs.YtcjmfjccjhdgjaaGreatDoor
open Go.RowKit Go.Bd
theorem headE : headB [61, 61, 32, 65, 32, 98, 32, 35, 120] = (2, [65, 32, 98], [120]) := by decide +kernel
theorem itemE : itemB [46, 32, 97] = (1, true, [97]) := by decide +kernel
theorem bX : (blocksOf (linesOf eX)).map (fun b => (b.rows.length, b.label.data.toList)) = [(2, [116])] := by decide +kernel
theorem dX : (diagsOf (linesOf eX)).map (fun d => (d.fault, d.line)) = [(9, 1)] := by decide +kernel
theorem bU : (blocksOf (linesOf eU)).map (fun b => b.text.data.toList) = [[120]] := by decide +kernel
theorem dU : (diagsOf (linesOf eU)).map (fun d => d.fault) = [4] := by decide +kernel
theorem bW : (blocksOf (linesOf eW)).map (fun b => (b.text.data.toList, b.label.data.toList)) = [([97, 46, 112, 110, 103], [102])] := by decide +kernel
theorem dW : (diagsOf (linesOf eW)).map (fun d => (d.file.data.toList, d.line, d.fault, d.text.data.toList)) = [([102], 2, 3, [33, 102, 111, 111])] := by decide +kernel
theorem kK : kindsOf eK = [1, 2, 3] := by decide +kernel
theorem kL : kindsOf eL = [4, 5, 2] := by decide +kernel
end Go.Proofs.YtcjmfjccjhdgjaaGreatDoor
namespace Go.Proofs.YtcjmfjccjhdgjaaGreatDoor
open Go.RowKit Go.Bd
theorem lit_rd (w : World) (xs : List ByteArray) (cs : Array Value) (h : cs = (xs.map Value.string).toArray) (n : Nat) (hn : xs.length = n) (hm : n ≤ maxLen) : Rd (w.alloc (.cells cs 9)) (w.alloc (.cells cs 9)).heap.size (.slice (some ⟨w.heap.size, 0, none⟩) n n) (xs.map Value.string) := by
  have h1 := own_rd (own_lit w 9 (xs.map Value.string) (by rw [List.length_map]; omega))
  rw [List.length_map, hn, ← h] at h1
  exact h1
theorem lit_kd (w : World) (ks : List Nat) (cs : Array Value) (h : cs = (ks.map kindV).toArray) (n : Nat) (hn : ks.length = n) (hm : n ≤ maxLen) : Rd (w.alloc (.cells cs 31)) (w.alloc (.cells cs 31)).heap.size (.slice (some ⟨w.heap.size, 0, none⟩) n n) (ks.map kindV) := by
  have h1 := own_rd (own_lit w 31 (ks.map kindV) (by rw [List.length_map]; omega))
  rw [List.length_map, hn, ← h] at h1
  exact h1
theorem one_of_map {α β : Type} {f : α → β} {l : List α} {b : β} (h : l.map f = [b]) : ∃ a, l = [a] ∧ f a = b := by
  cases l with
  | nil => cases h
  | cons a r =>
    cases r with
    | nil => exact ⟨a, rfl, by simpa using h⟩
    | cons _ _ => simp at h
theorem ba_of {s : ByteArray} {l : Bs} (h : s.data.toList = l) : s = ⟨l.toArray⟩ := ba_ext (by simpa using h)
set_option maxRecDepth 100000 in
set_option maxHeartbeats 16000000 in
theorem alive_any {w : World} {m : Int} (hm : Glob m w) : Calls Tryz.prog 9 #[] w fun e w' => e = .returned (.bool true) ∧ Below w.heap.size w w' := by
  have CH := head_any ⟨#[61, 61, 32, 65, 32, 98, 32, 35, 120]⟩ w (by decide) hm.2
  have e1 : (⟨#[61, 61, 32, 65, 32, 98, 32, 35, 120]⟩ : ByteArray).data.toList = [61, 61, 32, 65, 32, 98, 32, 35, 120] := rfl
  rw [e1, headE] at CH
  have CI := fun W => item_any ⟨#[46, 32, 97]⟩ W (by decide)
  have e2 : (⟨#[46, 32, 97]⟩ : ByteArray).data.toList = [46, 32, 97] := rfl
  rw [e2, itemE] at CI
  unfold strV at CH CI
  simp only at CH CI
  have HM := Lib.hid hm
  clear e1 e2 hm
  go_enter Tryz.func9, Tryz.ntmps9
  go_wp2_with fail
  refine CH.mono ?_
  clear CH
  rintro e w1 ⟨rfl, hb1⟩
  go_wp2_with fail
  refine (CI _).mono ?_
  clear CI
  rintro e w2 ⟨rfl, hb2⟩
  have hB2 := hb1.trans (hb2.mono hb1.size)
  have HB2 := Lib.hid hB2
  clear hb1 hb2 hB2
  have RX := lit_rd w2 eX #[.string ⟨#[124, 61, 61, 61, 84, 32, 35, 116]⟩, .string ⟨#[124, 32, 97, 32, 124, 32, 98]⟩, .string ⟨#[124, 32, 99]⟩, .string ⟨#[124, 61, 61, 61]⟩] rfl 4 rfl (by unfold maxLen; omega)
  have CO := of_any RX (Nat.le_refl _) (by decide)
  clear RX
  go_wp2_with fail
  refine CO.mono ?_
  clear CO
  rintro e w3 ⟨lv, rfl, ho, hb3⟩
  have hb23 := ((Below.refl w2.heap.size w2).alloc (Nat.le_refl _) (.cells #[.string ⟨#[124, 61, 61, 61, 84, 32, 35, 116]⟩, .string ⟨#[124, 32, 97, 32, 124, 32, 98]⟩, .string ⟨#[124, 32, 99]⟩, .string ⟨#[124, 61, 61, 61]⟩] 9)).trans (hb3.mono (by simp))
  have hB3 := HB2.out.trans (hb23.mono HB2.out.size)
  have CP := parsed_any (xs := eX) (HM.out.below hB3) (by decide) ho hb3
  have HB3 := Lib.hid hB3
  clear hb23 hB3 ho hb3
  go_wp2_with fail
  refine CP.mono ?_
  clear CP
  rintro e w4 ⟨⟨O, F, rb, lv2, bv, dv, rfl, hr, _, _⟩, hb4⟩
  have HB4 := Lib.hid (HB3.out.trans (hb4.mono HB3.out.size))
  obtain ⟨BA, bc, rfl⟩ := hr.bform
  obtain ⟨DA, dc, rfl⟩ := hr.dform
  obtain ⟨xb, exb, pxb⟩ := one_of_map bX
  obtain ⟨xd, exd, pxd⟩ := one_of_map dX
  rw [exb, exd] at hr ⊢
  obtain ⟨gx, _, _, xA, xc, rfl, _, _, _, _, _, _, x3, _, _, x6, _, _⟩ := hr.blk_at (j := 0) (x := xb) rfl
  obtain ⟨gy, rfl, _, _, y1, y2, _⟩ := hr.dg_at (j := 0) (x := xd) rfl
  have h1 : xb.rows.length = 2 := congrArg Prod.fst pxb
  have h2 : xb.label = ⟨#[116]⟩ := ba_of (congrArg Prod.snd pxb)
  have h3 : xd.fault = 9 := congrArg Prod.fst pxd
  have h4 : xd.line = 1 := congrArg Prod.snd pxd
  rw [h1] at x6
  rw [h2] at x3
  rw [h4] at y1
  rw [h3] at y2
  simp only [Nat.zero_mul, Nat.zero_add, List.length_singleton] at x3 x6 y1 y2 ⊢
  have HX := Lib.hid (And.intro x3 (And.intro x6 (And.intro y1 y2)))
  clear hr hb4 exb exd pxb pxd h1 h2 h3 h4 x3 x6 y1 y2
  have RX := lit_rd w4 eU #[.string ⟨#[45, 45, 45, 45]⟩, .string ⟨#[120]⟩] rfl 2 rfl (by unfold maxLen; omega)
  have CO := of_any RX (Nat.le_refl _) (by decide)
  clear RX
  go_wp2_with fail
  refine CO.mono ?_
  clear CO
  rintro e w5 ⟨lv, rfl, ho, hb5⟩
  have hb45 := ((Below.refl w4.heap.size w4).alloc (Nat.le_refl _) (.cells #[.string ⟨#[45, 45, 45, 45]⟩, .string ⟨#[120]⟩] 9)).trans (hb5.mono (by simp))
  have hB5 := HB4.out.trans (hb45.mono HB4.out.size)
  have CP := parsed_any (xs := eU) (HM.out.below hB5) (by decide) ho hb5
  have HB5 := Lib.hid (And.intro hB5 hb45)
  clear hB5 ho hb5 hb45
  go_wp2_with fail
  refine CP.mono ?_
  clear CP
  rintro e w6 ⟨⟨O, F, rb, lv2, bv, dv, rfl, hr, _, _⟩, hb6⟩
  have HB6 := Lib.hid (And.intro (HB5.out.1.trans (hb6.mono HB5.out.1.size)) (HB5.out.2.trans (hb6.mono HB5.out.2.size)))
  obtain ⟨BA, bc2, rfl⟩ := hr.bform
  obtain ⟨DA, dc2, rfl⟩ := hr.dform
  obtain ⟨xb, exb, pxb⟩ := one_of_map bU
  obtain ⟨xd, exd, pxd⟩ := one_of_map dU
  rw [exb, exd] at hr ⊢
  obtain ⟨gu, _, _, _, _, rfl, _, _, _, _, _, _, _, u4, _, _, _, _⟩ := hr.blk_at (j := 0) (x := xb) rfl
  obtain ⟨gv, rfl, _, _, _, v2, _⟩ := hr.dg_at (j := 0) (x := xd) rfl
  rw [ba_of pxb] at u4
  rw [pxd] at v2
  simp only [Nat.zero_mul, Nat.zero_add, List.length_singleton] at u4 v2 ⊢
  have HU := Lib.hid (And.intro u4 v2)
  clear hr hb6 exb exd pxb pxd u4 v2
  have RX := lit_rd w6 eW #[.string ⟨#[33, 102, 105, 103, 32, 97, 46, 112, 110, 103, 32, 65, 32, 98, 32, 35, 102]⟩, .string ⟨#[33, 102, 111, 111]⟩] rfl 2 rfl (by unfold maxLen; omega)
  have CO := of_any RX (Nat.le_refl _) (by decide)
  clear RX
  go_wp2_with fail
  refine CO.mono ?_
  clear CO
  rintro e w7 ⟨lv, rfl, ho, hb7⟩
  have hb67 := ((Below.refl w6.heap.size w6).alloc (Nat.le_refl _) (.cells #[.string ⟨#[33, 102, 105, 103, 32, 97, 46, 112, 110, 103, 32, 65, 32, 98, 32, 35, 102]⟩, .string ⟨#[33, 102, 111, 111]⟩] 9)).trans (hb7.mono (by simp))
  have hB7 := HB6.out.1.trans (hb67.mono HB6.out.1.size)
  have CP := parsed_any (xs := eW) (HM.out.below hB7) (by decide) ho hb7
  have HB7 := Lib.hid (And.intro hB7 hb67)
  clear hB7 ho hb7 hb67
  go_wp2_with fail
  refine CP.mono ?_
  clear CP
  rintro e w8 ⟨⟨O, F, rb, lv2, bv, dv, rfl, hr, _, _⟩, hb8⟩
  have hB8 := HB7.out.1.trans (hb8.mono HB7.out.1.size)
  have hb68 := HB7.out.2.trans (hb8.mono HB7.out.2.size)
  have hb48 := HB6.out.2.trans (hb68.mono HB6.out.2.size)
  obtain ⟨BA, bc3, rfl⟩ := hr.bform
  obtain ⟨DA, dc3, rfl⟩ := hr.dform
  obtain ⟨xb, exb, pxb⟩ := one_of_map bW
  obtain ⟨xd, exd, pxd⟩ := one_of_map dW
  rw [exb, exd] at hr ⊢
  obtain ⟨gw, _, _, _, _, rfl, _, _, _, _, _, _, w3, w4', _, _, _, _⟩ := hr.blk_at (j := 0) (x := xb) rfl
  obtain ⟨gz, rfl, _, z0, z1, z2, z3⟩ := hr.dg_at (j := 0) (x := xd) rfl
  have h1 : xb.text = ⟨#[97, 46, 112, 110, 103]⟩ := ba_of (congrArg Prod.fst pxb)
  have h2 : xb.label = ⟨#[102]⟩ := ba_of (congrArg Prod.snd pxb)
  have h3 : xd.file = ⟨#[102]⟩ := ba_of (congrArg Prod.fst pxd)
  have h4 : xd.line = 2 := congrArg (fun p => p.2.1) pxd
  have h5 : xd.fault = 3 := congrArg (fun p => p.2.2.1) pxd
  have h6 : xd.text = ⟨#[33, 102, 111, 111]⟩ := ba_of (congrArg (fun p => p.2.2.2) pxd)
  rw [h1] at w4'
  rw [h2] at w3
  rw [h3] at z0
  rw [h4] at z1
  rw [h5] at z2
  rw [h6] at z3
  simp only [Nat.zero_mul, Nat.zero_add, List.length_singleton] at w3 w4' z0 z1 z2 z3 ⊢
  have hl4 := fun {b i : Nat} {v : Value} (h : w4.cell? ⟨b, i, none⟩ = some v) => (hb48.cell (p := ⟨b, i, none⟩) (World.block_lt_of_cell? _ _ h)).trans h
  have hl6 := fun {b i : Nat} {v : Value} (h : w6.cell? ⟨b, i, none⟩ = some v) => (hb68.cell (p := ⟨b, i, none⟩) (World.block_lt_of_cell? _ _ h)).trans h
  have x3 := hl4 HX.out.1
  have x6 := hl4 HX.out.2.1
  have y1 := hl4 HX.out.2.2.1
  have y2 := hl4 HX.out.2.2.2
  have u4 := hl6 HU.out.1
  have v2 := hl6 HU.out.2
  have HB8 := Lib.hid hB8
  clear hr hb8 hB8 hb68 hb48 hl4 hl6 exb exd pxb pxd h1 h2 h3 h4 h5 h6
  have RK := lit_rd w8 eK #[.string ⟨#[61, 32, 84, 32, 35, 116]⟩, .string ⟨#[]⟩, .string ⟨#[97]⟩, .string ⟨#[98]⟩, .string ⟨#[42, 32, 99]⟩] rfl 5 rfl (by unfold maxLen; omega)
  have hb89 := (Below.refl w8.heap.size w8).alloc (Nat.le_refl _) (.cells #[.string ⟨#[61, 32, 84, 32, 35, 116]⟩, .string ⟨#[]⟩, .string ⟨#[97]⟩, .string ⟨#[98]⟩, .string ⟨#[42, 32, 99]⟩] 9)
  have hB9 := HB8.out.trans (hb89.mono HB8.out.size)
  have CK := kinds_any RK (Nat.le_refl _) (HM.out.below hB9) (by decide)
  rw [kK] at CK
  have HB9 := Lib.hid hB9
  clear RK hb89 hB9
  go_wp2_with fail
  refine CK.mono ?_
  clear CK x3 x6 y1 y2 u4 v2 w3 w4' z0 z1 z2 z3
  rintro e w9 ⟨kv, rfl, ho, hb9⟩
  have hB9 := HB9.out.trans (hb9.mono HB9.out.size)
  have R1 := (own_rd ho).below ((Below.refl w9.heap.size w9).alloc (Nat.le_refl _) (.cells #[.int .u8 1, .int .u8 2, .int .u8 3] 31))
  have R2 := lit_kd w9 [1, 2, 3] #[.int .u8 1, .int .u8 2, .int .u8 3] rfl 3 rfl (by unfold maxLen; omega)
  have CA := are_any (R1.more (by simp)) R2 (Nat.le_refl _) (by decide) (by decide)
  have hB9' := hB9.alloc hB9.size (.cells #[.int .u8 1, .int .u8 2, .int .u8 3] 31)
  rw [show decide (([1, 2, 3] : List Nat) = [1, 2, 3]) = true from rfl] at CA
  have HB9' := Lib.hid hB9'
  clear ho hb9 hB9 R1 R2 hB9' HB9
  go_wp2_with fail
  refine CA.mono ?_
  clear CA
  rintro e w10 ⟨rfl, hb10⟩
  have hB10 := HB9'.out.trans (hb10.mono HB9'.out.size)
  have RK := lit_rd w10 eL #[.string ⟨#[45, 45, 45, 45]⟩, .string ⟨#[42, 32, 120]⟩, .string ⟨#[45, 45, 45, 45]⟩, .string ⟨#[33, 116, 105, 112, 32, 97]⟩, .string ⟨#[33, 32, 97]⟩] rfl 5 rfl (by unfold maxLen; omega)
  have hB11 := hB10.alloc hB10.size (.cells #[.string ⟨#[45, 45, 45, 45]⟩, .string ⟨#[42, 32, 120]⟩, .string ⟨#[45, 45, 45, 45]⟩, .string ⟨#[33, 116, 105, 112, 32, 97]⟩, .string ⟨#[33, 32, 97]⟩] 9)
  have CK := kinds_any RK (Nat.le_refl _) (HM.out.below hB11) (by decide)
  rw [kL] at CK
  have HB11 := Lib.hid hB11
  clear RK hb10 hB10 hB11 HB9'
  go_wp2_with fail
  refine CK.mono ?_
  clear CK
  rintro e w12 ⟨kv2, rfl, ho, hb12⟩
  have hB12 := HB11.out.trans (hb12.mono HB11.out.size)
  have R1 := (own_rd ho).below ((Below.refl w12.heap.size w12).alloc (Nat.le_refl _) (.cells #[.int .u8 4, .int .u8 5, .int .u8 2] 31))
  have R2 := lit_kd w12 [4, 5, 2] #[.int .u8 4, .int .u8 5, .int .u8 2] rfl 3 rfl (by unfold maxLen; omega)
  have CA := are_any (R1.more (by simp)) R2 (Nat.le_refl _) (by decide) (by decide)
  have hB13 := hB12.alloc hB12.size (.cells #[.int .u8 4, .int .u8 5, .int .u8 2] 31)
  rw [show decide (([4, 5, 2] : List Nat) = [4, 5, 2]) = true from rfl] at CA
  have HB13 := Lib.hid hB13
  clear ho hb12 hB12 R1 R2 hB13 HB11
  go_wp2_with fail
  refine CA.mono ?_
  clear CA
  rintro e w14 ⟨rfl, hb14⟩
  go_wp2
  go_ret
  exact ⟨rfl, HB13.out.trans (hb14.mono HB13.out.size)⟩
end Go.Proofs.YtcjmfjccjhdgjaaGreatDoor
