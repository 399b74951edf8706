/-
  The law TablesAligned: its walk.
-/
import Derived.Test.YtkfffoolpdilnaaDoorGS
import Derived.Test.YtkfffoolpdilnaaDoorGU
import Derived.WalkSpells
namespace Go.Proofs.YtkfffoolpdilnaaDoor
open Go.RowKit Go.Bd
theorem sg_plain {s : ByteArray} (h : ∀ (j : Nat) (hj : j < s.size), (s[j]'hj).toNat < 128) : sg s = s.size := Lib.runeCount_ascii s h
theorem getD_of {L : List Nat} {j x : Nat} (h : L[j]? = some x) : L.getD j 0 = x := by rw [List.getD_eq_getElem?_getD, h]; rfl
set_option maxRecDepth 100000 in
set_option maxHeartbeats 2000000 in
theorem tablesAligned_any (v : Value) (ls : List (List ByteArray)) (m : Int) (w : World) (hm : w.cell? ⟨0, 0, none⟩ = some (.int .i64 m)) (hG : Grid w w.heap.size v ls) (hl : ls.length ≤ 140737488355328) (hr : ∀ r ∈ ls, r.length ≤ 140737488355328) (hx : ∀ r ∈ ls, ∀ s ∈ r, s.size ≤ 140737488355328) :
    Calls Tryd.prog 5 #[v] w fun e w' => e = .returned (.bool true) ∧ Below w.heap.size w w' := by
  have hw0 : 0 < w.heap.size := World.block_lt_of_cell? w _ hm
  obtain ⟨A, c, rfl, hc, _⟩ := hG.form
  have HG := Lib.hid hG
  have HR := Lib.hid hr
  have HX := Lib.hid hx
  clear hG hr hx
  generalize hn : ls.length = n at hl hc ⊢
  have HN := Lib.hid hn
  clear hn
  go_enter Tryd.func5, Tryd.ntmps5
  go_wp2_with fail
  refine (alive_any m w hm).mono ?_
  rintro e w1 ⟨rfl, hb1⟩
  go_wp2_with fail
  have hG1 := HG.out.below hb1
  rw [HN.out] at hG1
  have cg := great_any (.slice A n c) ls w1 w.heap.size hG1 (by rw [HN.out]; exact hl) HR.out HX.out
  refine cg.mono ?_
  clear cg
  rintro e w1' ⟨⟨g, rfl, hg⟩, hw⟩
  subst hw
  cases g with
  | true =>
    clear hG1 hg
    go_wp2_with fail
    refine (alive_any m _ ((hb1.cell (p := ⟨0, 0, none⟩) hw0).trans hm)).mono ?_
    rintro e w2 ⟨rfl, hb2⟩
    go_wp2
    go_ret
    exact ⟨rfl, hb1.trans (hb2.mono hb1.size)⟩
  | false =>
    obtain ⟨hn2, hb5⟩ := hg rfl
    rw [HN.out] at hn2
    have HB := Lib.hid hb5
    have hs1 := hb1.size
    go_wp2_with fail
    have cl := lines_any (.slice A n c) ls w1 w.heap.size hG1 hs1 (by rw [HN.out]; omega) (fun r hr => by have := (HB.out r hr).1; omega) (fun r hr s hs => by have := (HB.out r hr).2 s hs; omega)
    rw [lines_length, HN.out] at cl
    refine cl.mono ?_
    clear cl hg hb5 HR HX
    rintro e w2 ⟨vL, rfl, hoL, hb2⟩
    go_wp2_with fail
    have hG2 := hG1.below (hb2.mono hs1)
    have cW := widths_any (.slice A n c) ls w2 w.heap.size hG2 (Nat.le_trans hs1 hb2.size) (by rw [HN.out]; omega) (fun r hr => by have := (HB.out r hr).1; omega) (fun r hr s hs => by have := (HB.out r hr).2 s hs; omega)
    refine cW.mono ?_
    clear cW hG1
    rintro e w3 ⟨vW, rfl, hoW, hb3⟩
    have hRL := own_rd (own_below hoL hb3)
    have hRW := own_rd hoW
    obtain ⟨AW, cW, rfl, hcW, fW⟩ := hRW.form
    have hG3 := hG2.below (hb3.mono (Nat.le_trans hs1 hb2.size))
    have hbw : Below w.heap.size w w3 := (hb1.trans (hb2.mono hs1)).trans (hb3.mono (Nat.le_trans hs1 hb2.size))
    obtain ⟨Lb, cL, rfl, hcL, fL⟩ := (show Texts w3 w3.heap.size vL (linesOf ls) from hRL).form
    rw [lines_length, HN.out] at hcL
    rw [lines_length, HN.out]
    have FL := Lib.hid fL
    have FW := Lib.hid fW
    obtain ⟨_, _, e1, _, f⟩ := hG3.form
    rw [HN.out] at e1
    cases e1
    have F := Lib.hid f
    have HWB := Lib.hid (wid_bound (fun q hq => (HB.out q hq).2))
    have HWR := Lib.hid (fun r (hr : r ∈ ls) k s hs => wid_row (ls := ls) (r := r) hr (k := k) (s := s) hs)
    have HLB := Lib.hid (fun r (hr : r ∈ ls) => lineGo_bound (W := wid ls) (N := 5000) HWB.out r 0 ((HB.out r hr).2))
    clear f hG2 hG3 fL fW hRL hRW hoL hoW hb2 hb3 hs1 hb1 hw0 hm HG
    have HLG : Hid (∀ (k : Nat) r, ls[k]? = some r → (linesOf ls)[k]? = some ⟨(lineOf (wid ls) r).toArray⟩) := fun k r h => lines_get h
    have HST : Hid (∀ r, Stands (wid ls) r ⟨(lineOf (wid ls) r).toArray⟩ 0 0) := fun r => Stands.start _ _
    have HSZ : Hid (∀ r, (lineGo (wid ls) 0 r).length = (ByteArray.mk (lineOf (wid ls) r).toArray).size) := fun r => rfl
    generalize linesOf ls = lines at FL HLG
    generalize wid ls = W at *
    rw [List.length_map] at *
    go_wp2
    go_loopg [5] n (fun r i wr => ∃ k d : Nat, k + r = n ∧ i = .int .i64 k ∧ wr = w3.drewN d)
    case atStart => exact ⟨0, 0, by omega, rfl, rfl⟩
    case round =>
      obtain ⟨k, d, hk, rfl, rfl⟩ := hrel
      obtain ⟨gO, hgO⟩ : ∃ g, g = gk := ⟨_, rfl⟩
      subst hgO
      by_cases hlt : k < n
      · obtain ⟨r, hrk⟩ : ∃ r, ls[k]? = some r := ⟨_, List.getElem?_eq_getElem (by rw [HN.out]; exact hlt)⟩
        obtain ⟨b, off, rA, rc, rfl, hbB, hcr, htx⟩ := F.out k r hrk
        obtain ⟨b3, off3, rfl, hb3, hcl⟩ := FL.out k _ (HLG.out k r hrk)
        have hmem := List.mem_of_getElem? hrk
        obtain ⟨hrl, hrs⟩ := HB.out r hmem
        have hlb := HLB.out r hmem
        rw [HSZ.out] at hlb
        have HS0 := Lib.hid (HST.out r)
        have HWr := Lib.hid (HWR.out r hmem)
        have HRS := Lib.hid hrs
        obtain ⟨_, _, e1, hrc, ft⟩ := htx.form
        cases e1
        have FT := Lib.hid ft
        clear hrk htx hrs ft hmem
        generalize (⟨(lineOf W r).toArray⟩ : ByteArray) = line at hcl hlb HS0
        have hlb2 : line.size ≤ 60000000 := by
          have : r.length * (3 + 5000 + 5000) ≤ 5000 * (3 + 5000 + 5000) := Nat.mul_le_mul_right _ hrl
          omega
        clear hlb
        generalize hm' : r.length = m' at hrl hrc hcr
        have HM := Lib.hid hm'
        clear hm'
        go_wp2
        go_loopg [6, 7] m' (fun q a i wr => ∃ j at' d : Nat, j + q = m' ∧ a = .int .i64 at' ∧ i = .int .i64 j ∧ at' ≤ 60000000 ∧ Hid (Stands W r line j at') ∧ wr = w3.drewN d)
        case atStart => exact ⟨0, 0, d, by omega, rfl, rfl, by omega, HS0, rfl⟩
        case round =>
          obtain ⟨j, at', d, hj, rfl, rfl, hat, HSt, rfl⟩ := hrel
          by_cases hjl : j + 1 < m'
          · obtain ⟨s, hsj⟩ : ∃ x, r[j]? = some x := ⟨_, List.getElem?_eq_getElem (by rw [HM.out]; omega)⟩
            obtain ⟨t, htj⟩ : ∃ x, r[j + 1]? = some x := ⟨_, List.getElem?_eq_getElem (by rw [HM.out]; omega)⟩
            obtain ⟨b4, off4, rfl, hb4, hcs⟩ := FT.out j s hsj
            have hss := HRS.out s (List.mem_of_getElem? hsj)
            obtain ⟨hwl, hwg⟩ := HWr.out j s hsj
            obtain ⟨x, hxj⟩ : ∃ x, W[j]? = some x := ⟨_, List.getElem?_eq_getElem hwl⟩
            have hxb := HWB.out x (List.mem_of_getElem? hxj)
            obtain ⟨b5, off5, rfl, hb5, hcw⟩ := FW.out j _ (getElem?_map_natV hxj)
            rw [getD_of hxj] at hwg
            have HStep := Lib.hid (fun h1 h2 => HSt.out.step hsj htj h1 (getD_of hxj) h2)
            clear hsj htj hxj
            obtain ⟨gM, hgM⟩ : ∃ g, g = gk := ⟨_, rfl⟩
            subst hgM
            go_wp2
            go_loopg [8] s.size (fun q i wr => ∃ p d : Nat, p + q = s.size ∧ i = .int .i64 p ∧ Hid (∀ (y : Nat) (hy : y < s.size), y < p → (s[y]'hy).toNat < 128) ∧ wr = w3.drewN d)
            case atStart => exact ⟨0, d, by omega, rfl, fun _ _ h => absurd h (by omega), rfl⟩
            case round =>
              obtain ⟨p, d, hp, rfl, HA, rfl⟩ := hrel
              by_cases hpl : p < s.size
              · go_wp2
                · go_ret
                  exact ⟨rfl, below_drewN hbw _⟩
                · rename_i hge _
                  go_roundg (gk - 1)
                  case measure => omega
                  case rel =>
                    refine ⟨p + 1, d, by omega, by go_num, fun y hy hyp => ?_, rfl⟩
                    by_cases hyl : y < p
                    · exact HA.out y hy hyl
                    · obtain rfl : y = p := by omega
                      omega
              · have hsg := sg_plain (fun y hy => HA.out y hy (by omega))
                clear HA
                obtain ⟨h1, h2, h3⟩ := HStep.out hsg (by omega)
                have HS2 := Lib.hid h3
                have H2 := Lib.hid h2
                clear h2 h3 HStep
                have t1 : decide (W.length ≤ j) = false := by simp; omega
                have t2 : decide (x < s.size) = false := by simp; omega
                have hjm : j < m' := by omega
                obtain ⟨z, hz⟩ : ∃ z, at' + x = z := ⟨_, rfl⟩
                rw [hz] at h1 HS2 H2
                have hzb : z ≤ 60000000 := by omega
                have hzi : (at' : Int) + (x : Int) = (z : Int) := by omega
                have t3 : decide ((line.size : Int) < (z : Int) + 3) = false := by simp; omega
                have t4 : (z : Int) + 3 ≤ line.size := by omega
                clear hsg hwg hz
                go_wp2
                go_quiet (fail)
                go_wp2
                · exfalso
                  have hx : (!(line.extract z (z + 3)).toList == [32, 124, 32]) = true := by assumption
                  rw [H2.out, ByteArray.toList_eq] at hx
                  revert hx; decide
                · go_roundg (gM - 1)
                  case measure => omega
                  case rel => exact ⟨j + 1, z + 3, _, by omega, by go_num, by go_num, by omega, HS2.out, rfl⟩
          · go_wp2
            go_roundg (gO - 1)
            case measure => omega
            case rel => exact ⟨k + 1, d, by omega, by go_num, rfl⟩
      · go_wp2
        go_ret
        exact ⟨rfl, below_drewN hbw _⟩
end Go.Proofs.YtkfffoolpdilnaaDoor
