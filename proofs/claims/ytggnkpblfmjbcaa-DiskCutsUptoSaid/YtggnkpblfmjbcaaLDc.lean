/-
  Walks: the law DiskCuts.
-/
import Derived.Test.YtggnkpblfmjbcaaLDa
import Derived.Lib.SlBytesConst
namespace Go.Proofs.Ytggnkpblfmjbcaa
open Go.RowKit Go.Bd
def nmO : ByteArray := ⟨#[111, 116, 104, 101, 114]⟩
theorem cell_marked (w : World) (u : Value) (e : TypeId) (fz : Nat × Nat) : (w.alloc (.cells #[u] e fz)).cell? ⟨w.heap.size, 0, none⟩ = some u := by
  have h := World.alloc_heap_new w (.cells #[u] e fz)
  unfold World.cell?
  simp only [h]
  rfl
/-- []byte("x") as it is laid -/
theorem one_in {w : World} {F : Nat → Prop} (hF : ¬ F w.heap.size) : InB (w.alloc (.cells #[.int .u8 120] 5 (1, 2))) F (some ⟨w.heap.size, 0, none⟩) [120] := by
  refine .inr ⟨w.heap.size, 0, rfl, hF, fun j u hj => ?_⟩
  cases j with
  | zero => obtain rfl : Value.int .u8 120 = u := by simpa [u8L] using hj
            exact cell_marked _ _ _ _
  | succ j => simp [u8L] at hj
theorem cuts_far {w4 w5 w7 w8 w9 w10 : World} (hf : w4.heap.size ≤ w10.heap.size ∧ w10.heap.size < w5.heap.size) (h6 : Below w5.heap.size w5 w7) (h8 : Below w7.heap.size w7 w8) (h9 : Below w8.heap.size w8 w9) (h10 : Below w9.heap.size w9 w10) : False := by
  have := h6.size; have := h8.size; have := h9.size; have := h10.size
  omega
set_option maxRecDepth 100000 in
set_option maxHeartbeats 2000000 in
theorem diskCuts_true (v : Value) (l : List Ac) (at1 again : Nat) (w : World) (h : ActsAt w w.heap.size v l) (hw : weigh l ≤ 1048576) (ha : at1 < 65536) (hb : again < 65536) :
    Calls Try.prog 3 #[v, .int .u16 (at1 : Int), .int .u16 (again : Int)] w fun e w' => e = .returned (.bool true) ∧ Below w.heap.size w w' := by
  obtain ⟨A, c, rfl, hc, f⟩ := h.form
  have hgr := great_any _ l w _ h hw
  have F := Lib.hid f
  clear h f
  by_cases hg : greatA l = true
  · rw [hg] at hgr
    clear F
    go_enter Try.func3, Try.ntmps3
    go_wp2_with (first
      | (go_at_call 5; refine hgr.mono ?_; rintro e w1 ⟨rfl, hb1⟩)
      | (go_at_call 6; refine (lives_any _).mono ?_; rintro e w2 ⟨rfl, hb2⟩))
    go_ret
    exact ⟨rfl, hb1.trans (hb2.mono hb1.size)⟩
  · have hg1 : greatA l = false := by simpa using hg
    rw [hg1] at hgr
    have hl1 : l.length ≤ 100 := by
      unfold greatA at hg1
      simp at hg1
      omega
    have hl2 : weigh l ≤ 60000 := by
      unfold greatA at hg1
      simp at hg1
      omega
    have WL := Lib.hid (weigh_take_le l)
    clear hg hg1 hw
    generalize hn : l.length = n at hc hl1 hgr ⊢
    have HN := Lib.hid hn
    clear hn
    go_enter Try.func3, Try.ntmps3
    go_wp2_with (first
      | (go_at_call 5; refine hgr.mono ?_; rintro e w1 ⟨rfl, hb1⟩)
      | (go_at_call 7; refine (new_dk 100000 (by omega) _).mono ?_; rintro e w2 ⟨db, rfl, hd2, hb2⟩))
    have hb02 := hb1.trans (hb2.mono hb1.size)
    have hs1 := hb1.size
    have HD2 := Lib.hid hd2
    have HB02 := Lib.hid hb02
    clear hd2 hb02 hb1 hb2 hgr
    go_loopg [9] n (fun q vi wr => ∃ k : Nat, k + q = n ∧ vi = .int .i64 (k : Int) ∧ ∃ F1 R1 hist, Dk wr F1 R1 db 100000 hist ∧ (∀ j, F1 j → w.heap.size ≤ j) ∧ (∀ j, R1 j → w.heap.size ≤ j) ∧ hist.length ≤ 2 * k + weigh (l.take k) ∧ Below w.heap.size w wr)
    case atStart => exact ⟨0, by omega, rfl, _, _, [], HD2.out, fun j hj => by omega, fun j hj => hj.elim, by simp, HB02.out⟩
    case round =>
      obtain ⟨k, hk, rfl, F1, R1, hist, hd, hF, hR, hhl, hbr⟩ := hrel
      have hwk := WL.out k
      clear HD2 HB02
      by_cases hlt : k < n
      · obtain ⟨x, hx⟩ : ∃ x, l[k]? = some x := ⟨_, List.getElem?_eq_getElem (by rw [HN.out]; exact hlt)⟩
        obtain ⟨b, off, A', c', rfl, hbB, c0, c1, c2, _, hc', hcb⟩ := F.out k x hx
        have hwt := weigh_take hx
        have hwl := WL.out (k + 1)
        rw [hwt] at hwl
        replace c0 := (hbr.cell (p := ⟨b, off + k * 4, none⟩) hbB).trans c0
        replace c1 := (hbr.cell (p := ⟨b, off + k * 4 + 1, none⟩) hbB).trans c1
        replace c2 := (hbr.cell (p := ⟨b, off + k * 4 + 2, none⟩) hbB).trans c2
        have hin : InB wr F1 A' x.b := by
          rcases hcb with h0 | ⟨g, o, h1, h2, h3⟩
          · exact .inl h0
          · exact .inr ⟨g, o, h1, fun hf => by have := hF g hf; omega, fun i u hu => (hbr.cell (p := ⟨g, o + i, none⟩) h2).trans (h3 i u hu)⟩
        have hwr := fun (w4 : World) (h4 : Below wr.heap.size wr w4) => write_dk (hd.below h4) x.name (by omega) x.b A' c' (hin.chg (Chg.below h4 F1)) (by omega) hc' (by omega) (by omega)
        have hrm := remove_dk hd x.name (by omega) (by omega)
        have hrl1 := rawsW_length (runR hist) 100000 x.name x.b
        have hrl2 := rawsD_length (runR hist) x.name
        have HF := Lib.hid hF
        have HR := Lib.hid hR
        have HB := Lib.hid hbr
        have HWT := Lib.hid hwt
        have HWR := Lib.hid hwr
        have hsr := hbr.size
        clear hd hF hR hbr hwt hwr hin hcb
        by_cases hkd : x.kind % 5 = 3
        · go_wp2_with (go_at_call 8; refine hrm.mono ?_; rintro e w4 ⟨rfl, F4, R4, hd4, hF4, hR4, hc4⟩)
          have hs4 := hc4.size
          go_roundg (gk - 1)
          case measure => omega
          case rel =>
            refine ⟨k + 1, by omega, by go_num, F4, R4, _, hd4, fun j hj => ?_, fun j hj => ?_, by rw [HWT.out, List.length_append]; omega, HB.out.trans (hc4.toBelow hsr (fun j hj => HF.out j hj))⟩
            · rcases hF4 j hj with h | h
              · exact HF.out j h
              · omega
            · rcases hR4 j hj with h | h
              · exact HR.out j h
              · omega
        · have hwr := HWR.out wr.drew ((Below.refl _ _).drew)
          go_wp2_with fail
          go_region_with (go_at_call 9; refine hwr.mono ?_; rintro e w4 ⟨rfl, F4, R4, hd4, hF4, hR4, hc4⟩)
          all_goals go_wp2
          all_goals (
            have hs4 : wr.heap.size ≤ w4.heap.size := hc4.size
            have hb4 : Below w.heap.size wr w4 := ((Below.refl _ wr).drew).trans (hc4.toBelow hsr (fun j hj => HF.out j hj))
            go_roundg (gk - 1)
            case measure => omega
            case rel =>
              refine ⟨k + 1, by omega, by go_num, F4, R4, _, hd4, fun j hj => ?_, fun j hj => ?_, by rw [HWT.out, List.length_append]; omega, HB.out.trans hb4⟩
              · rcases hF4 j hj with h | h
                · exact HF.out j h
                · exact Nat.le_trans hsr h
              · rcases hR4 j hj with h | h
                · exact HR.out j h
                · exact Nat.le_trans hsr h)
      · obtain rfl : k = n := by omega
        have hll : hist.length ≤ 70000 := by omega
        have hRlt := hd.ltR
        have hFlt := hd.ltF
        have hwr := writes_dk hd
        have hct := cut_ok hd hist.length hist.length rfl (Nat.le_refl _) (by omega) (by omega)
        rw [List.take_length] at hct
        obtain ⟨k1, hk1, hk1l⟩ : ∃ k1 : Nat, (at1 : Int) % ((hist.length : Int) + 1) = (k1 : Int) ∧ k1 ≤ hist.length := ⟨at1 % (hist.length + 1), by push_cast; rfl, Nat.le_of_lt_succ (Nat.mod_lt _ (Nat.succ_pos _))⟩
        obtain ⟨j1, hj1, hj1l⟩ : ∃ j1 : Nat, (again : Int) % ((k1 : Int) + 1) = (j1 : Int) ∧ j1 ≤ k1 := ⟨again % (k1 + 1), by push_cast; rfl, Nat.le_of_lt_succ (Nat.mod_lt _ (Nat.succ_pos _))⟩
        have htl : (hist.take k1).length = k1 := by rw [List.length_take]; omega
        have htj : (hist.take k1).take j1 = hist.take j1 := by rw [List.take_take]; congr 1; omega
        have htjl : (hist.take j1).length = j1 := by rw [List.length_take]; omega
        clear F
        go_wp2_with (first
          | (go_at_call 10; refine hwr.mono ?_; clear hwr; rintro e w3 ⟨rfl, rfl⟩)
          | (go_at_call 11; refine hct.mono ?_; clear hct; rintro e w4 ⟨dall, rfl, hdall, hb4⟩; have hct2 := cut_ok (hd.below hb4) k1 k1 rfl hk1l (by omega) (by omega))
          | (go_at_call 11; refine hct2.mono ?_; clear hct2; rintro e w5 ⟨done, rfl, hdone, hb5⟩; have hsm := same_any (hdall.below hb5) ((hd.below hb4).below hb5) (by omega); have hwr1 := writes_dk hdone; rw [htl] at hwr1)
          | (go_at_call 12; refine hsm.mono ?_; clear hsm hwr1; rintro e w6 ⟨rfl, hb6⟩; have hwr1 := writes_dk (hdone.below hb6); rw [htl] at hwr1; have hct3 := cut_ok (hdone.below hb6) j1 j1 rfl (by rw [htl]; exact hj1l) (by rw [htl]; exact Nat.le_trans (Nat.add_le_add_right hk1l 2) (Nat.le_trans (Nat.add_le_add_right hll 2) (by decide))) (by decide); rw [htj] at hct3)
          | (go_at_call 10; refine hwr1.mono ?_; clear hwr1; rintro e w7 ⟨rfl, rfl⟩)
          | (go_at_call 11; refine hct3.mono ?_; clear hct3; rintro e w8 ⟨dtwo, rfl, hdtwo, hb8⟩; have hct4 := cut_ok ((((hd.below hb4).below hb5).below hb6).below hb8) j1 j1 rfl (Nat.le_trans hj1l hk1l) (Nat.le_trans (Nat.add_le_add_right hll 2) (by decide)) (by decide))
          | (go_at_call 11; refine hct4.mono ?_; clear hct4; rintro e w9 ⟨dthr, rfl, hdthr, hb9⟩; have hsm2 := same_any (hdtwo.below hb9) hdthr (by rw [htjl]; exact Nat.le_trans hj1l (Nat.le_trans hk1l (Nat.le_trans hll (by decide)))))
          | (go_at_call 12; refine hsm2.mono ?_; clear hsm2; rintro e w10 ⟨rfl, hb10⟩; have hcv := Lib.run_convert_bytes_const (P := Try.prog) w10 30 5 #[.int .u8 120] 1 1 under_bytes Try.underlying5; have hbw := (Below.refl w10.heap.size w10).alloc (Nat.le_refl _) (.cells #[.int .u8 120] 5 (1, 2)); have hwrt := write_dk ((((hdone.below hb6).below hb8).below hb9).below hb10 |>.below hbw) nmO (by decide) [120] (some ⟨w10.heap.size, 0, none⟩) 1 (one_in (fun hf => cuts_far hf hb6 hb8 hb9 hb10)) (by decide) (by decide) (by rw [htl]; exact Nat.le_trans (Nat.add_le_add_right (Nat.le_trans hk1l hll) 3) (by decide)) (by decide))
          | (go_at_call 9; refine hwrt.mono ?_; clear hwrt; rintro e w11 ⟨rfl, F11, R11, hd11, hF11, hR11, hc11⟩))
        have hs4 := hb4.size
        have hs5 := hb5.size
        have hs6 := hb6.size
        have hdA := ((((((hdall.below hb5).below hb6).below hb8).below hb9).below hb10).below hbw).chg hc11 (fun j h1 h2 => by omega) (fun j h1 h2 => by have := hRlt j h1; omega)
        have hdD := (((((((hd.below hb4).below hb5).below hb6).below hb8).below hb9).below hb10).below hbw).chg hc11 (fun j h1 h2 => by have := hFlt j h1; omega) (fun j h1 h2 => by have := hRlt j h1; omega)
        have hd2 := (((hdtwo.below hb9).below hb10).below hbw).chg hc11 (fun j h1 h2 => by omega) (fun j h1 h2 => by have := hRlt j h1; omega)
        have hd3 := ((hdthr.below hb10).below hbw).chg hc11 (fun j h1 h2 => by have := hb8.size; omega) (fun j h1 h2 => by have := hRlt j h1; omega)
        have hbe : Below w.heap.size w w11 := by
          have h5 := hbr.trans (hb4.mono hbr.size)
          have h6 := h5.trans (hb5.mono h5.size)
          have h7 := h6.trans (hb6.mono h6.size)
          have h8 := h7.trans (hb8.mono h7.size)
          have h9 := h8.trans (hb9.mono h8.size)
          have h10 := h9.trans (hb10.mono h9.size)
          have h11 := h10.trans (hbw.mono h10.size)
          exact h11.trans (hc11.toBelow h11.size (fun j hj => by have := hbr.size; omega))
        have hsm := same_any hdA hdD (by omega)
        clear hdall hd hdone hdtwo hdthr hd11 hc11 hF11 hR11 hdA
        go_wp2_with (first
          | (go_at_call 12; refine hsm.mono ?_; clear hsm; rintro e w12 ⟨rfl, hb12⟩; have hwr := writes_dk (hdD.below hb12); have hsm3 := same_any (hd2.below hb12) (hd3.below hb12) (by rw [htjl]; exact Nat.le_trans hj1l (Nat.le_trans hk1l (Nat.le_trans hll (by decide)))))
          | (go_at_call 10; refine hwr.mono ?_; clear hwr; rintro e w13 ⟨rfl, rfl⟩)
          | (go_at_call 12; refine hsm3.mono ?_; clear hsm3; rintro e w14 ⟨rfl, hb14⟩)
          | (go_at_call 6; refine (lives_any _).mono ?_; rintro e w15 ⟨rfl, hb15⟩))
        go_ret
        refine ⟨rfl, ?_⟩
        have h12 := hbe.trans (hb12.mono hbe.size)
        have h14 := h12.trans (hb14.mono h12.size)
        exact h14.trans (hb15.mono h14.size)
end Go.Proofs.Ytggnkpblfmjbcaa
