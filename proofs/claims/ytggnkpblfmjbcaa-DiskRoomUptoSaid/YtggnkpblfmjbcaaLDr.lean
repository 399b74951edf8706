/-
  Walks: the law DiskRoom.
-/
import Derived.Test.YtggnkpblfmjbcaaLDa
import Derived.Laws.BytesArg
import Derived.Laws.Concat
namespace Go.Proofs.Ytggnkpblfmjbcaa
open Go.RowKit Go.Bd
/-- the two letters of a name, as they are laid -/
theorem name_conv (w : World) (x : Nat) : (convert 30 9 (.slice (some ⟨w.heap.size, 0, none⟩) 2 2)).run Try.prog ((w.alloc (.cells #[.int .u8 (97 + (x : Int) % 16), .int .u8 (97 + (x : Int) / 16)] 5)).drew) = .ok (.string (strOfNums [97 + (x : Int) % 16, 97 + (x : Int) / 16])) ((w.alloc (.cells #[.int .u8 (97 + (x : Int) % 16), .int .u8 (97 + (x : Int) / 16)] 5)).drew) := by
  have hh := Holds.new w 5 #[.int .u8 (97 + (x : Int) % 16), .int .u8 (97 + (x : Int) / 16)]
  refine run_convert_bytes_arg _ _ 5 under_bytes Try.underlying5 w.heap.size 0 2 2 _ rfl (fun i hi => ?_) _ str_key
  match i, hi with
  | 0, _ => exact hh.cell 0
  | 1, _ => exact hh.cell 1
theorem readB_le (hist : List Raw) (s : ByteArray) : (readB (runR hist) s).1.length ≤ usedB (runR hist) := by
  unfold readB
  split
  · split
    · rename_i c hc
      have h1 := used_del (uniq_runR hist) s
      rw [hc] at h1
      simp only [Option.getD_some] at h1
      show c.length ≤ _
      omega
    · simp
  · simp
theorem writeE_or {fs : Fs} {size : Nat} {s : ByteArray} {q : Bs} (h : nameB s = true) : writeE fs size s q = 0 ∨ writeE fs size s q = 6 := by
  unfold writeE
  rw [if_pos h]
  split
  · exact .inr rfl
  · split
    · exact .inr rfl
    · exact .inl rfl
theorem namesB_length (fs : Fs) : (namesB fs).length = fs.length := by
  unfold namesB
  rw [List.length_mergeSort, List.length_map]
theorem delB_length {fs : Fs} (h : UniqB fs) (s : ByteArray) : (delB fs s).length + (if (getB fs s).isSome then 1 else 0) = fs.length := by
  induction fs with
  | nil => simp [delB, getB]
  | cons a fs ih =>
    have h1 := List.pairwise_cons.1 h
    have ih' := ih h1.2
    by_cases ha : a.1 = s
    · have e1 : delB fs s = fs := by
        unfold delB
        rw [List.filter_eq_self]
        intro x hx
        have := h1.1 x hx
        simp [← ha, Ne.symm this]
      have e2 : delB (a :: fs) s = fs := by
        unfold delB at e1 ⊢
        rw [List.filter_cons_of_neg (by simp [ha]), e1]
      rw [e2]
      simp [getB, ha]
    · have e2 : delB (a :: fs) s = a :: delB fs s := by
        unfold delB
        rw [List.filter_cons_of_pos (by simp [ha])]
      have e3 : getB (a :: fs) s = getB fs s := by
        unfold getB
        rw [List.find?_cons_of_neg (by simp [ha])]
      rw [e2, e3, List.length_cons, List.length_cons]
      omega
theorem room_ok {fs : Fs} {size : Nat} {s : ByteArray} {q : Bs} (hu : UniqB fs) (h1 : usedB fs ≤ size) (h2 : fs.length ≤ 256) (h : writeE fs size s q = 0) : usedB (setB fs s q) ≤ size ∧ (setB fs s q).length ≤ 256 := by
  have e1 := used_set hu s q
  have e2 := used_del hu s
  have e3 := delB_length hu s
  have e4 : (setB fs s q).length = (delB fs s).length + 1 := by unfold setB; simp
  unfold writeE at h
  split at h
  · split at h
    · exact absurd h (by decide)
    · rename_i hf
      split at h
      · exact absurd h (by decide)
      · rename_i hq
        refine ⟨by omega, ?_⟩
        cases hg : getB fs s with
        | none =>
          rw [hg] at e3 hf
          simp at e3 hf
          omega
        | some o =>
          rw [hg] at e3
          simp at e3
          omega
  · exact absurd h (by decide)
def nmR (x : Nat) : ByteArray := ⟨#[102]⟩ ++ strOfNums [97 + (x : Int) % 16, 97 + (x : Int) / 16]
theorem name_add (x : Nat) (w : World) : (Op.stringOp .add ⟨#[102]⟩ (strOfNums [97 + (x : Int) % 16, 97 + (x : Int) / 16])).run Try.prog w = .ok (.string (nmR x)) w :=
  run_string_add w _ _ (by decide) (by rw [strOfNums_size]; show ((2 : Nat) : Int) ≤ _; omega)
theorem nmR_ok (x : Nat) (hx : x < 256) : nameB (nmR x) = true := by
  have h : ∀ x : Fin 256, nameB (nmR x.1) = true := by decide +kernel
  exact h ⟨x, hx⟩
set_option maxRecDepth 100000 in
set_option maxHeartbeats 4000000 in
theorem diskRoom_true (size : Nat) (v1 v2 : Value) (xs zs : List Int) (w : World) (hz : size < 65536) (h1 : Rd w w.heap.size v1 (xs.map (Value.int .u8))) (h2 : Rd w w.heap.size v2 (zs.map (Value.int .u16))) (hx : ∀ x ∈ xs, 0 ≤ x ∧ x ≤ 255) (hy : ∀ x ∈ zs, 0 ≤ x ∧ x ≤ 65535) :
    Calls Try.prog 4 #[.int .u16 (size : Int), v1, v2] w fun e w' => e = .returned (.bool true) ∧ Below w.heap.size w w' := by
  obtain ⟨A, c, rfl, hc, f⟩ := h1.form
  obtain ⟨A2, c2, rfl, hc2, f2⟩ := h2.form
  rw [List.length_map] at hc hc2 ⊢
  rw [List.length_map]
  have F := Lib.hid f
  have F2 := Lib.hid f2
  have HX := Lib.hid hx
  have HY := Lib.hid hy
  clear f f2 h1 h2 hx hy
  generalize hn : xs.length = n at hc ⊢
  generalize hm : zs.length = m at hc2 ⊢
  have HN := Lib.hid hn
  have HM := Lib.hid hm
  clear hn hm
  by_cases hb : 300 < n
  · clear F F2
    go_enter Try.func4, Try.ntmps4
    go_wp2_with (go_at_call 6; refine (lives_any _).mono ?_; rintro e w2 ⟨rfl, hb2⟩)
    go_ret
    exact ⟨rfl, hb2⟩
  · go_enter Try.func4, Try.ntmps4
    go_wp2_with (go_at_call 7; refine (new_dk size (by omega) _).mono ?_; rintro e w2 ⟨db, rfl, hd2, hb2⟩)
    have HD2 := Lib.hid hd2
    have HB2 := Lib.hid hb2
    clear hd2 hb2
    go_loopg [9, 10, 11, 12, 13, 14, 15, 16] n (fun q vi _ _ _ _ _ _ _ wr => ∃ k : Nat, k + q = n ∧ vi = .int .i64 (k : Int) ∧ ∃ F1 R1 hist, Dk wr F1 R1 db size hist ∧ (∀ j, F1 j → w.heap.size ≤ j) ∧ (∀ j, R1 j → w.heap.size ≤ j) ∧ hist.length ≤ 5 * k ∧ usedB (runR hist) ≤ size ∧ (runR hist).length ≤ 256 ∧ Below w.heap.size w wr)
    case atStart => exact ⟨0, by omega, rfl, _, _, [], HD2.out, fun j hj => hj.1, fun j hj => hj.elim, by simp, by simp [runR, usedB], by simp [runR], HB2.out⟩
    case round =>
      obtain ⟨k, hk, rfl, F1, R1, hist, hd, hF, hR, hhl, hus, hln, hbr⟩ := hrel
      clear HD2 HB2
      by_cases hlt : k < n
      · obtain ⟨x, hx⟩ : ∃ x, xs[k]? = some x := ⟨_, List.getElem?_eq_getElem (by rw [HN.out]; exact hlt)⟩
        have hxb := HX.out x (List.mem_of_getElem? hx)
        obtain ⟨xn, rfl⟩ : ∃ xn : Nat, x = xn := ⟨x.toNat, by omega⟩
        obtain ⟨b, off, rfl, hbB, hcx⟩ := F.out k _ (by rw [List.getElem?_map, hx]; rfl)
        replace hcx := (hbr.cell (p := ⟨b, off + k, none⟩) hbB).trans hcx
        by_cases hkm : k < m
        · obtain ⟨z, hz2⟩ : ∃ z, zs[k]? = some z := ⟨_, List.getElem?_eq_getElem (by rw [HM.out]; exact hkm)⟩
          have hzb := HY.out z (List.mem_of_getElem? hz2)
          obtain ⟨zn, rfl⟩ : ∃ zn : Nat, z = zn := ⟨z.toNat, by omega⟩
          obtain ⟨b2, off2, rfl, hbB2, hcz⟩ := F2.out k _ (by rw [List.getElem?_map, hz2]; rfl)
          replace hcz := (hbr.cell (p := ⟨b2, off2 + k, none⟩) hbB2).trans hcz
          obtain ⟨nn, hnn, hnl⟩ : ∃ nn : Nat, (zn : Int) % 2000 = (nn : Int) ∧ nn < 2000 := ⟨zn % 2000, by omega, by omega⟩
          have hcv := name_conv wr xn
          have hadd := name_add (xn)
          have hnm := nmR_ok xn (by omega)
          have hns := nameB_le hnm
          have hb4 := ((Below.refl wr.heap.size wr).alloc (Nat.le_refl _) (.cells #[.int .u8 (97 + (xn : Int) % 16), .int .u8 (97 + (xn : Int) / 16)] 5)).drew
          have HD := Lib.hid hd
          have HF := Lib.hid hF
          have HR := Lib.hid hR
          have HB := Lib.hid hbr
          have hsr := hbr.size
          clear hd hF hR hbr
          go_wp2_with fail
          go_region
          all_goals go_wp2_with fail
          generalize (wr.alloc (.cells #[.int .u8 (97 + (xn : Int) % 16), .int .u8 (97 + (xn : Int) / 16)] 5)).drew = w4 at hb4 ⊢
          clear hcv hadd hcx
          have hs4 := hb4.size
          have hd4 := HD.out.below hb4
          have hrd := read_dk hd4 (nmR xn) (by omega) (by omega)
          obtain ⟨was, hwas⟩ : ∃ r, readB (runR hist) (nmR xn) = r := ⟨_, rfl⟩
          rw [hwas] at hrd
          have hwl : was.1.length ≤ 140737488355328 := by
            have h1 := readB_le hist (nmR xn)
            rw [hwas] at h1
            omega
          go_wp2_with (
            go_at_call 13; refine hrd.mono ?_; clear hrd; rintro e w5 ⟨v5, rfl, ho5, hb5⟩
            have hs5 := hb5.size
            have hd5 := hd4.below hb5
            obtain ⟨w6, hm6, hi6, hb6⟩ := make_zeros w5 F1 (fun h => by have := hd5.ltF _ h; omega) (nn : Int) (nn) (by rfl) (by omega)
            have hs6 := hb6.size
            have hd6 := hd5.below hb6
            have hw := write_dk hd6 (nmR xn) (by omega) (zerosB (nn)) (some ⟨w5.heap.size, 0, none⟩) (nn) hi6 (by rw [zerosB_length]; omega) (by rw [zerosB_length]; omega) (by rw [zerosB_length]; omega) (by omega)
            rw [zerosB_length] at hw
            clear hd4)
          obtain ⟨A5, c5, rfl, _⟩ := own_slice ho5
          go_wp2_with (go_at_call 9; refine hw.mono ?_; clear hw hm6; rintro e w7 ⟨rfl, F7, R7, hd7, hF7, hR7, hc7⟩)
          have ho7 := hc7.owns (own_below ho5 hb6) (fun g hg hf => by have h1 := HD.out.ltF g hf; have h2 := (ho5.lt g hg).1; omega)
          have hs7 := hc7.size
          have hun := uniq_runR hist
          have hll := rawsW_length (runR hist) size (nmR xn) (zerosB (nn))
          rw [zerosB_length] at hll
          have hr2 := run_rawsW hist size (nmR xn) (zerosB (nn))
          have hl2 : (hist ++ rawsW (runR hist) size (nmR xn) (zerosB (nn))).length ≤ 5 * (k + 1) := by rw [List.length_append]; omega
          generalize hist ++ rawsW (runR hist) size (nmR xn) (zerosB (nn)) = hist2 at hd7 hr2 hl2
          have hb47 : Below w.heap.size w w7 := by
            have e1 := HB.out.trans (hb4.mono hsr)
            have e2 := e1.trans (hb5.mono e1.size)
            have e3 := e2.trans (hb6.mono e2.size)
            exact e3.trans (hc7.toBelow e3.size HF.out)
          have hF7' : ∀ j, F7 j → w.heap.size ≤ j := fun j hj => by
            rcases hF7 j hj with h | h
            · exact HF.out j h
            · omega
          have hR7' : ∀ j, R7 j → w.heap.size ≤ j := fun j hj => by
            rcases hR7 j hj with h | h
            · exact HR.out j h
            · omega
          clear hb4 hb5 hb6 hc7 hi6 ho5 hd5 hd6 hF7 hR7
          rcases writeE_or (fs := runR hist) (size := size) (q := zerosB (nn)) hnm with he | he
          · rw [he, if_pos rfl] at hr2
            obtain ⟨hu2, hn2⟩ := room_ok hun hus hln he
            rw [he]
            have hrd := read_dk hd7 (nmR xn) (by omega) (by omega)
            have hre : readB (runR hist2) (nmR xn) = (zerosB (nn), 0) := by rw [hr2]; unfold readB; rw [if_pos hnm, getB_set_same]
            rw [hre] at hrd
            rw [← hr2] at hu2 hn2
            simp only [zerosB_length] at hrd
            clear he hr2 hre
            go_wp2_with (first
              | (go_at_call 13; refine hrd.mono ?_; clear hrd; rintro e w8 ⟨v8, rfl, ho8, hb8⟩; obtain ⟨A8, c8, rfl, _⟩ := own_slice ho8; have hus8 := used_dk (hd7.below hb8); have hnm8 := names_dk (hd7.below hb8) (by omega))
              | (go_at_call 15; refine hus8.mono ?_; clear hus8; rintro e w9 ⟨rfl, rfl⟩)
              | (go_at_call 16; refine hnm8.mono ?_; clear hnm8; rintro e w10 ⟨v10, rfl, ho10, hb10⟩; obtain ⟨A10, c10, rfl, _⟩ := own_slice ho10; rw [namesB_length]))
            have hb7e := hb47.trans (hb8.mono hb47.size)
            have hb7f := hb7e.trans (hb10.mono hb7e.size)
            go_roundg (gk - 1)
            case measure => omega
            case rel => exact ⟨k + 1, by omega, by go_num, F7, R7, hist2, (hd7.below hb8).below hb10, hF7', hR7', hl2, hu2, hn2, hb7f⟩
          · rw [he, if_neg (by decide)] at hr2
            rw [he]
            have hrd := read_dk hd7 (nmR xn) (by omega) (by omega)
            rw [hr2, hwas] at hrd
            have hu2 : usedB (runR hist2) ≤ size := by rw [hr2]; exact hus
            have hn2 : (runR hist2).length ≤ 256 := by rw [hr2]; exact hln
            clear he hr2 hwas
            go_wp2_with (first
              | (go_at_call 13; refine hrd.mono ?_; clear hrd; rintro e w8 ⟨v8, rfl, ho8, hb8⟩; obtain ⟨A8, c8, rfl, _⟩ := own_slice ho8; have hus8 := fun (w9 : World) (h9 : Below w8.heap.size w8 w9) => used_dk ((hd7.below hb8).below h9); have hnm8 := fun (w9 : World) (h9 : Below w8.heap.size w8 w9) => names_dk ((hd7.below hb8).below h9) (by omega); have hsb := sameBytes_any _ _ was.1 was.1 w8 w8.heap.size (own_rd (own_below ho7 hb8)) (own_rd ho8) hwl hwl)
              | (go_at_call 14; refine hsb.mono ?_; clear hsb; rintro e w9 ⟨rfl, hb9⟩; simp only [decide_true])
              | (go_at_call 15; refine (hus8 _ hb9).mono ?_; clear hus8; rintro e w10 ⟨rfl, rfl⟩)
              | (go_at_call 16; refine (hnm8 _ hb9).mono ?_; clear hnm8; rintro e w11 ⟨v11, rfl, ho11, hb11⟩; obtain ⟨A11, c11, rfl, _⟩ := own_slice ho11; rw [namesB_length]))
            have hb7e := hb47.trans (hb8.mono hb47.size)
            have hb7f := hb7e.trans (hb9.mono hb7e.size)
            have hb7g := hb7f.trans (hb11.mono hb7f.size)
            go_roundg (gk - 1)
            case measure => omega
            case rel => exact ⟨k + 1, by omega, by go_num, F7, R7, hist2, ((hd7.below hb8).below hb9).below hb11, hF7', hR7', hl2, hu2, hn2, hb7g⟩
        · skip
          have hcv := name_conv wr xn
          have hadd := name_add (xn)
          have hnm := nmR_ok xn (by omega)
          have hns := nameB_le hnm
          have hb4 := ((Below.refl wr.heap.size wr).alloc (Nat.le_refl _) (.cells #[.int .u8 (97 + (xn : Int) % 16), .int .u8 (97 + (xn : Int) / 16)] 5)).drew
          have HD := Lib.hid hd
          have HF := Lib.hid hF
          have HR := Lib.hid hR
          have HB := Lib.hid hbr
          have hsr := hbr.size
          clear hd hF hR hbr
          go_wp2_with fail
          go_region
          all_goals go_wp2_with fail
          generalize (wr.alloc (.cells #[.int .u8 (97 + (xn : Int) % 16), .int .u8 (97 + (xn : Int) / 16)] 5)).drew = w4 at hb4 ⊢
          clear hcv hadd hcx
          have hs4 := hb4.size
          have hd4 := HD.out.below hb4
          have hrd := read_dk hd4 (nmR xn) (by omega) (by omega)
          obtain ⟨was, hwas⟩ : ∃ r, readB (runR hist) (nmR xn) = r := ⟨_, rfl⟩
          rw [hwas] at hrd
          have hwl : was.1.length ≤ 140737488355328 := by
            have h1 := readB_le hist (nmR xn)
            rw [hwas] at h1
            omega
          go_wp2_with (
            go_at_call 13; refine hrd.mono ?_; clear hrd; rintro e w5 ⟨v5, rfl, ho5, hb5⟩
            have hs5 := hb5.size
            have hd5 := hd4.below hb5
            obtain ⟨w6, hm6, hi6, hb6⟩ := make_zeros w5 F1 (fun h => by have := hd5.ltF _ h; omega) 0 (0) (by rfl) (by omega)
            have hs6 := hb6.size
            have hd6 := hd5.below hb6
            have hw := write_dk hd6 (nmR xn) (by omega) (zerosB (0)) (some ⟨w5.heap.size, 0, none⟩) (0) hi6 (by rw [zerosB_length]; omega) (by rw [zerosB_length]; omega) (by rw [zerosB_length]; omega) (by omega)
            rw [zerosB_length] at hw
            clear hd4)
          obtain ⟨A5, c5, rfl, _⟩ := own_slice ho5
          go_wp2_with (go_at_call 9; refine hw.mono ?_; clear hw hm6; rintro e w7 ⟨rfl, F7, R7, hd7, hF7, hR7, hc7⟩)
          have ho7 := hc7.owns (own_below ho5 hb6) (fun g hg hf => by have h1 := HD.out.ltF g hf; have h2 := (ho5.lt g hg).1; omega)
          have hs7 := hc7.size
          have hun := uniq_runR hist
          have hll := rawsW_length (runR hist) size (nmR xn) (zerosB (0))
          rw [zerosB_length] at hll
          have hr2 := run_rawsW hist size (nmR xn) (zerosB (0))
          have hl2 : (hist ++ rawsW (runR hist) size (nmR xn) (zerosB (0))).length ≤ 5 * (k + 1) := by rw [List.length_append]; omega
          generalize hist ++ rawsW (runR hist) size (nmR xn) (zerosB (0)) = hist2 at hd7 hr2 hl2
          have hb47 : Below w.heap.size w w7 := by
            have e1 := HB.out.trans (hb4.mono hsr)
            have e2 := e1.trans (hb5.mono e1.size)
            have e3 := e2.trans (hb6.mono e2.size)
            exact e3.trans (hc7.toBelow e3.size HF.out)
          have hF7' : ∀ j, F7 j → w.heap.size ≤ j := fun j hj => by
            rcases hF7 j hj with h | h
            · exact HF.out j h
            · omega
          have hR7' : ∀ j, R7 j → w.heap.size ≤ j := fun j hj => by
            rcases hR7 j hj with h | h
            · exact HR.out j h
            · omega
          clear hb4 hb5 hb6 hc7 hi6 ho5 hd5 hd6 hF7 hR7
          rcases writeE_or (fs := runR hist) (size := size) (q := zerosB (0)) hnm with he | he
          · rw [he, if_pos rfl] at hr2
            obtain ⟨hu2, hn2⟩ := room_ok hun hus hln he
            rw [he]
            have hrd := read_dk hd7 (nmR xn) (by omega) (by omega)
            have hre : readB (runR hist2) (nmR xn) = (zerosB (0), 0) := by rw [hr2]; unfold readB; rw [if_pos hnm, getB_set_same]
            rw [hre] at hrd
            rw [← hr2] at hu2 hn2
            simp only [zerosB_length] at hrd
            clear he hr2 hre
            go_wp2_with (first
              | (go_at_call 13; refine hrd.mono ?_; clear hrd; rintro e w8 ⟨v8, rfl, ho8, hb8⟩; obtain ⟨A8, c8, rfl, _⟩ := own_slice ho8; have hus8 := used_dk (hd7.below hb8); have hnm8 := names_dk (hd7.below hb8) (by omega))
              | (go_at_call 15; refine hus8.mono ?_; clear hus8; rintro e w9 ⟨rfl, rfl⟩)
              | (go_at_call 16; refine hnm8.mono ?_; clear hnm8; rintro e w10 ⟨v10, rfl, ho10, hb10⟩; obtain ⟨A10, c10, rfl, _⟩ := own_slice ho10; rw [namesB_length]))
            have hb7e := hb47.trans (hb8.mono hb47.size)
            have hb7f := hb7e.trans (hb10.mono hb7e.size)
            go_roundg (gk - 1)
            case measure => omega
            case rel => exact ⟨k + 1, by omega, by go_num, F7, R7, hist2, (hd7.below hb8).below hb10, hF7', hR7', hl2, hu2, hn2, hb7f⟩
          · rw [he, if_neg (by decide)] at hr2
            rw [he]
            have hrd := read_dk hd7 (nmR xn) (by omega) (by omega)
            rw [hr2, hwas] at hrd
            have hu2 : usedB (runR hist2) ≤ size := by rw [hr2]; exact hus
            have hn2 : (runR hist2).length ≤ 256 := by rw [hr2]; exact hln
            clear he hr2 hwas
            go_wp2_with (first
              | (go_at_call 13; refine hrd.mono ?_; clear hrd; rintro e w8 ⟨v8, rfl, ho8, hb8⟩; obtain ⟨A8, c8, rfl, _⟩ := own_slice ho8; have hus8 := fun (w9 : World) (h9 : Below w8.heap.size w8 w9) => used_dk ((hd7.below hb8).below h9); have hnm8 := fun (w9 : World) (h9 : Below w8.heap.size w8 w9) => names_dk ((hd7.below hb8).below h9) (by omega); have hsb := sameBytes_any _ _ was.1 was.1 w8 w8.heap.size (own_rd (own_below ho7 hb8)) (own_rd ho8) hwl hwl)
              | (go_at_call 14; refine hsb.mono ?_; clear hsb; rintro e w9 ⟨rfl, hb9⟩; simp only [decide_true])
              | (go_at_call 15; refine (hus8 _ hb9).mono ?_; clear hus8; rintro e w10 ⟨rfl, rfl⟩)
              | (go_at_call 16; refine (hnm8 _ hb9).mono ?_; clear hnm8; rintro e w11 ⟨v11, rfl, ho11, hb11⟩; obtain ⟨A11, c11, rfl, _⟩ := own_slice ho11; rw [namesB_length]))
            have hb7e := hb47.trans (hb8.mono hb47.size)
            have hb7f := hb7e.trans (hb9.mono hb7e.size)
            have hb7g := hb7f.trans (hb11.mono hb7f.size)
            go_roundg (gk - 1)
            case measure => omega
            case rel => exact ⟨k + 1, by omega, by go_num, F7, R7, hist2, ((hd7.below hb8).below hb9).below hb11, hF7', hR7', hl2, hu2, hn2, hb7g⟩
      · obtain rfl : k = n := by omega
        go_wp2_with (go_at_call 6; refine (lives_any _).mono ?_; rintro e w2 ⟨rfl, hb2⟩)
        go_ret
        exact ⟨rfl, hbr.trans (hb2.mono hbr.size)⟩
end Go.Proofs.Ytggnkpblfmjbcaa
